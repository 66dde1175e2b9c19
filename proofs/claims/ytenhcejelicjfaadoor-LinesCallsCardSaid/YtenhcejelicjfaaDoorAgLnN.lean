/- What the functions of sets and vectors compute, and the laws of that. -/
import Derived.Test.YtenhcejelicjfaaDoorAgLnM
namespace AG
open Go Go.Proofs.YtenhcejelicjfaaDoor
set_option maxRecDepth 100000
set_option maxHeartbeats 4000000



theorem sub_len (n : Nat) (h : n ≤ 1000000) : binEv .sub (.int .i64 (n : Int)) (.int .i64 1) = some (.int .i64 ((n : Int) - 1)) := sub_int _ (by omega) (by omega)

theorem turned_run (n : Nat) (hn : 60 ≤ n) (P E : BitVec 32) (lv ac : Int) (m0 m : Mem) (hl0 : run A n 11 [] m0 = some (.bool true, m)) (v : AV) (l : List V) (hv : VS m v l) (hmn : m.n + 100 ≤ 2 ^ depth) :
    ∃ m', run A (n + 1) 5 [U P, U E, .int .i64 lv, .int .i64 ac, v] m0 = some (.bool true, m') := by
  rw [run_5]
  unfold fnEv a5
  obtain ⟨p1, p2, p3, p4⟩ := hv.plain
  have hln := hv.lenR
  simp only [codeEv, opsEv, oneEv, guardEv, opE_mov, opE_pick, opE_bin, opE_un, opE_call, opE_lenL, St.opd, look_set, look_cons, St.put, argsT, resEv, in_int, in_U, unEv, callWith, keepL, List.map, List.length, List.any, Option.map_some, Nat.reduceEqDiff, Nat.reduceAdd, Nat.reduceLT, if_true, if_false, Bool.not_true, Bool.false_eq_true, Nat.succ_ne_self, keepT_setT, keepT_lit, p1, hl0]
  generalize hq : codeEv (run A n) (ev A n).2 a5_R1 _ = q
  obtain ⟨T1, rfl, hk1, h32⟩ := a5_R1_ok v l m hv P E lv ac n (by omega) _ _ _ q hq (by simp only [keepT, List.map, look_set, look_cons, in_int, in_U, Nat.reduceEqDiff, if_true, if_false, p1])
  simp only [Nat.reduceLT, if_true, h32]
  by_cases hc40 : 40 < l.length
  · exact ⟨m, by simp only [look_set, loc_bool, if_true, if_false, Bool.true_or, Bool.false_eq_true, decide_true, hc40]⟩
  have hlen : l.length ≤ 1000000 := by omega
  by_cases hc : ¬ checkV l = 0
  · exact ⟨m, by simp only [look_set, loc_bool, if_true, if_false, Bool.or_true, Bool.not_false, Bool.false_eq_true, decide_false, hc40, hc]⟩
  have hc : checkV l = 0 := Decidable.of_not_not hc
  have hcr := checkV_rev hc
  obtain ⟨hok, hpw, h32l⟩ := checkV_law hc
  have hsl := sub_len l.length hlen
  simp only [look_set, look_cons, in_int, in_U, in_nils, List.map, Option.map_some, Nat.reduceEqDiff, Nat.reduceLT, if_true, if_false, Bool.or_false, Bool.not_true, Bool.false_eq_true, Nat.succ_ne_self, decide_true, decide_false, keepT_setT, hc40, hc, hk1, p1, hln, hsl]
  generalize hq : codeEv (run A n) (ev A n).2 a5_L1 _ = q
  obtain ⟨T2, L2, m2, v11, rfl, x2, n2a, n2b, o2, hk2⟩ := turn_loop v l m hv P E lv ac (by omega) m.n (Nat.le_refl _) l.length n _ _ m .nils q (Nat.le_refl _) (by omega) (Ext.refl m) (Nat.le_refl _) (by omega) (.inl ⟨rfl, by simp, by simp⟩) hq (by simp only [keepT, List.map, look_set, look_cons, in_int, in_U, in_nils, Nat.reduceEqDiff, if_true, if_false, p1])
  have hvr : VS m2 v11 l.reverse := OS.rs (f := V.c) (fun _ => rfl) (by rw [List.length_reverse]; exact o2)
  have hv2 := hv.ext x2
  obtain ⟨q1, q2, q3, q4⟩ := hvr.plain
  simp only [if_true]
  generalize hq : codeEv (run A n) (ev A n).2 a5_R3 _ = q
  have hrl : l.reverse.length ≤ 1000000 := by rw [List.length_reverse]; exact hlen
  obtain ⟨T3, m3, rfl, x3, n3, hk3⟩ := a5_R3_ok v l m2 hv2 P E lv ac v11 l.reverse hvr hrl hlen n (by omega) (by omega) _ _ _ q hq hk2
  have hv3 := hv2.ext x3
  have hvr3 := hvr.ext x3
  simp only []
  generalize hq : codeEv (run A n) (ev A n).2 a5_R4 _ = q
  obtain ⟨T4, m4, rfl, x4, n4, hk4⟩ := a5_R4_ok v l m3 hv3 P E lv ac v11 l.reverse hvr3 hrl _ _ n (by omega) (by omega) _ _ _ q hq hk3
  have hv4 := hv3.ext x4
  have hvr4 := hvr3.ext x4
  simp only []
  have B1 := take_best hc P E lv ac
  have B2 := take_best hcr P E lv ac
  generalize hq : codeEv (run A n) (ev A n).2 a5_R5 _ = q
  have hsame : decide (0 ≤ bI (takeR P E lv ac l.reverse)) = decide (0 ≤ bI (takeR P E lv ac l)) := by
    rcases best_rev B1 B2 with ⟨e1, e2⟩ | ⟨k, k', w, e1, e2, _, _⟩
    · rw [e1, e2]
    · rw [(bI_max _ _ _ e1).2, (bI_max _ _ _ e2).2]
  rw [hsame] at hk4
  obtain ⟨T5, rfl, hk5, h72⟩ := a5_R5_ok v l m4 hv4 P E lv ac v11 l.reverse hvr4 hrl _ _ _ hcr n (by omega) _ _ _ q hq hk4
  rcases best_rev B1 B2 with ⟨e1, e2⟩ | ⟨k, k', w, e1, e2, hw, hw'⟩
  · rw [(bI_none _ e1).1, (bI_none _ e2).1, (bI_none _ e1).2] at hk5
    have hk5' := keepT_sub hk5 [13, 15] rfl
    exact ⟨m4, by simp only [look_set, look_cons, bin_ieq, in_int, loc_bool, List.map, Option.map_some, Nat.reduceEqDiff, Nat.reduceLT, if_true, if_false, Bool.not_false, beq_self_eq_true, Bool.false_eq_true, Nat.succ_ne_self, decide_true, keepT_setT, h72, hk5]⟩
  · rw [(bI_max _ _ _ e1).1, (bI_max _ _ _ e2).1, (bI_max _ _ _ e1).2] at hk5
    have ho := okV_law (hok w (List.mem_of_getElem? hw))
    have hfn := findL_ok l 0 k w hpw hw rfl
    rw [Nat.zero_add] at hfn
    simp only [look_set, look_cons, bin_ieq, in_int, List.map, Option.map_some, Nat.reduceEqDiff, Nat.reduceLT, if_true, if_false, Bool.not_true, Bool.false_eq_true, Nat.succ_ne_self, keepT_setT, h72, hk5]
    generalize hq : codeEv (run A n) (ev A n).2 a5_R6 _ = q
    obtain ⟨T6, m6, rfl, x6, n6, hk6⟩ := a5_R6_ok v l m4 hv4 P E lv ac v11 l.reverse hvr4 hrl k w hw ho.1 ho.2.1 (k' : Int) n (by omega) (by omega) _ _ _ q hq (by simp only [keepT, List.map, look_set, look_cons, in_int, in_U, Nat.reduceEqDiff, if_true, if_false, p1, q1])
    have hv6 := hv4.ext x6
    have hvr6 := hvr4.ext x6
    simp only []
    generalize hq : codeEv (run A n) (ev A n).2 a5_R7 _ = q
    obtain ⟨T7, rfl, hk7⟩ := a5_R7_ok v l m6 hv6 P E lv ac v11 l.reverse hvr6 hrl h32l k w hw hfn (k' : Int) _ n (by omega) _ _ _ q hq hk6
    simp only []
    generalize hq : codeEv (run A n) (ev A n).2 a5_R8 _ = q
    obtain ⟨T8, m8, rfl, x8, n8, hk8⟩ := a5_R8_ok v l m6 hv6 P E lv ac v11 l.reverse hvr6 hrl hlen (k : Int) (k' : Int) _ n (by omega) (by omega) _ _ _ q hq hk7
    have hv8 := hv6.ext x8
    have hvr8 := hvr6.ext x8
    simp only []
    generalize hq : codeEv (run A n) (ev A n).2 a5_R9 _ = q
    rw [e1] at B1
    have B3 := take_best hc (P &&& ~~~(1#32 <<< w.line.toNat)) E lv ac
    obtain ⟨T9, rfl, h10⟩ := a5_R9_ok v l m8 hv8 P E lv ac v11 l.reverse hvr8 hrl k k' w hw hw' _ _ (by
      intro his
      cases hr : takeR (P &&& ~~~(1#32 <<< w.line.toNat)) E lv ac l with
      | none => rw [hr] at his; cases his
      | some kx =>
        obtain ⟨j, x⟩ := kx
        rw [hr] at B3
        obtain ⟨f1, f2, f3⟩ := less_law hok B1 B3
        exact ⟨j, x, (bI_max _ _ _ rfl).1, f1, f2, f3⟩) n _ _ _ q hq hk8
    exact ⟨m8, by simp only [loc_bool, if_false, Bool.false_eq_true, h10]⟩

end AG
