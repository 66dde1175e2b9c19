/- What the functions of masks and sets compute, and the laws of that. -/
import Derived.Test.YtenhcejelicjfaaAgMt4
namespace AG
open Go Go.Proofs.Ytenhcejelicjfaa
set_option maxRecDepth 100000
set_option maxHeartbeats 4000000



theorem hasI_one (n : Nat) (hn : n < 32) (k : Int) : hasI (1#32 <<< n) k = decide (k = n) := by
  have := hasI_or 0#32 n hn k
  rw [hasI_zero, Bool.false_or] at this
  rw [← this]
  congr 1
  apply BitVec.eq_of_getLsbD_eq
  intro i hi; simp

theorem taken_loop (v : AV) (l : List V) (m : Mem) (hv : VS m v l) (a b : Mk) (set pend : BitVec 32) (lv ac : Int) (come sure : BitVec 32) (hc : checkV l = 0) (H : ∀ (i : Nat) (x : V), l[i]? = some x → sure.getLsbD i = true → decide (0 ≤ bI (takeR (1#32 <<< x.line.toNat) set lv ac l)) = true ∧ max 0 (bI (takeR (1#32 <<< x.line.toNat) set lv ac l)) = i) :
    ∀ (r : List V) (i : Nat) (N : Nat) (T : List (Nat × AV)) (q : _), l.drop i = r → r.length + 251 ≤ N → codeEv (run A N) (ev A N).2 a4_L1 ⟨175, T, [(7, [U a.may, U a.must, .int .i64 a.fr, .int .i64 a.to]), (8, [U b.may, U b.must, .int .i64 b.fr, .int .i64 b.to])], m⟩ = q → keepT [2, 4, 5, 6, 7, 8, 15, 16, 19] [7, 8] T = [(2, U set), (4, .int .i64 lv), (5, .int .i64 ac), (6, v), (7, .loc 7 0), (8, .loc 8 0), (15, U come), (16, U sure), (19, .int .i64 (i : Int))] →
      ∃ T', q = some (.exit 0, ⟨175, T', [(7, [U a.may, U a.must, .int .i64 a.fr, .int .i64 a.to]), (8, [U b.may, U b.must, .int .i64 b.fr, .int .i64 b.to])], m⟩) ∧ keepT [2, 4, 5, 6, 7, 8, 15, 16] [7, 8] T' = [(2, U set), (4, .int .i64 lv), (5, .int .i64 ac), (6, v), (7, .loc 7 0), (8, .loc 8 0), (15, U come), (16, U sure)]
  | [], i, N, T, q, hd, hN, hq, hk => by
    subst hq
    obtain ⟨p1, p2, p3, p4⟩ := hv.plain
    have hln := hv.lenR
    have hi : ¬ ((i : Int) < (l.length : Int)) := by
      have := List.drop_eq_nil_iff.1 hd
      omega
    rw [a4_L1_step]
    unfold a4_B1
    exact ⟨_, (by simp only [codeEv, opsEv, oneEv, guardEv, opE_mov, opE_bin, opE_lenL, St.opd, look_set, look_cons, St.put, lookL, bin_ilt, keepL, Option.map_some, Nat.reduceEqDiff, Nat.reduceLT, if_true, if_false, Bool.false_eq_true, Nat.succ_ne_self, decide_false, hk, hln, hi]; rfl), (by simp only [keepT, List.map, look_set, look_cons, in_int, in_U, in_loc, Nat.reduceEqDiff, if_true, if_false, List.contains_cons, List.contains_nil, Nat.reduceBEq, beq_self_eq_true, Bool.or_true, Bool.or_false, p1])⟩
  | x :: r, i, N, T, q, hd, hN, hq, hk => by
    subst hq
    obtain ⟨hg, hi, hd'⟩ := drop_cons_get hd
    rw [List.length_cons] at hN
    obtain ⟨n, rfl⟩ : ∃ n, N = n + 1 := ⟨N - 1, by omega⟩
    obtain ⟨p1, p2, p3, p4⟩ := hv.plain
    have hln := hv.lenR
    obtain ⟨hok, hpw, h32⟩ := checkV_law hc
    have ho := okV_law (hok x (List.mem_of_getElem? hg))
    have hi' : (i : Int) < (l.length : Int) := by omega
    have hadd := add_i i (by omega)
    rw [a4_L1_step]
    unfold a4_B1
    simp only [codeEv, opsEv, oneEv, guardEv, opE_mov, opE_bin, opE_lenL, St.opd, look_set, look_cons, St.put, lookL, bin_ilt, keepL, Option.map_some, Nat.reduceEqDiff, Nat.reduceLT, if_true, if_false, Nat.succ_ne_self, decide_true, hk, hln, hi']
    generalize hq : codeEv (run A (n + 1)) (ev A (n + 1)).2 a4_R8 _ = q
    obtain ⟨T8, rfl, hk8⟩ := a4_R8_ok v l m hv a b set pend lv ac come sure i x hg ho.1 ho.2.1 (n + 1) (by omega) _ _ q hq (by simp only [keepT, List.map, look_set, look_cons, in_int, in_U, in_loc, Nat.reduceEqDiff, if_true, if_false, List.contains_cons, List.contains_nil, Nat.reduceBEq, beq_self_eq_true, Bool.or_true, Bool.or_false, p1])
    simp only []
    generalize hq : codeEv (run A (n + 1)) (ev A (n + 1)).2 a4_R9 _ = q
    obtain ⟨T9, rfl, hk9, h135⟩ := a4_R9_ok v l m hv a b set pend lv ac come sure i (by omega) _ _ (H i x hg) (n + 1) (by omega) _ _ q hq hk8
    simp only [look_set, look_cons, lookL, Option.map_some, Nat.reduceEqDiff, Nat.reduceLT, if_true, if_false, Bool.false_eq_true, Nat.succ_ne_self, h135, hk9, hadd, again_of]
    exact taken_loop v l m hv a b set pend lv ac come sure hc H r (i + 1) n _ _ hd' (by omega) rfl (by simp only [keepT, List.map, look_set, look_cons, in_int, in_U, in_loc, Nat.reduceEqDiff, if_true, if_false, List.contains_cons, List.contains_nil, Nat.reduceBEq, beq_self_eq_true, Bool.or_true, Bool.or_false, p1])

theorem taken_run (n : Nat) (hn : 400 ≤ n) (a b : Mk) (set pend : BitVec 32) (lv ac : Int) (m0 m : Mem) (hl0 : run A n 5 [] m0 = some (.bool true, m)) (v : AV) (l : List V) (hv : VS m v l) :
    ∃ m', run A (n + 1) 4 [a.av, b.av, U set, U pend, .int .i64 lv, .int .i64 ac, v] m0 = some (.bool true, m') := by
  rw [run_4]
  obtain ⟨p1, p2, p3, p4⟩ := hv.plain
  have hln := hv.lenR
  simp only [av_cells]
  unfold fnEv a4
  simp only [codeEv, opsEv, oneEv, guardEv, opE_mov, opE_alloc, opE_box, opE_loadk, opE_store, opE_un, opE_call, St.opd, look_set, look_cons, St.put, St.new, St.read, St.write, lookL, setL, splice, argsT, resEv, in_int, in_U, in_agg, in_loc, List.contains_cons, List.contains_nil, loc_int, cells_agg, unEv, callWith, keepL, List.map, List.length, List.any, Option.map_some, Nat.reduceEqDiff, Nat.reduceAdd, Nat.reduceLT, if_true, if_false, Bool.or_true, Bool.or_false, Bool.true_or, Bool.not_true, beq_self_eq_true, Bool.false_eq_true, Nat.succ_ne_self, u_0, keepT_setT, keepT_lit, p1, hl0]
  generalize hq : codeEv (run A n) (ev A n).2 a4_R1 _ = q
  obtain ⟨T1, rfl, hk1, h42⟩ := a4_R1_ok v l m hv a b set pend lv ac n (by omega) _ _ q hq (by simp only [keepT, List.map, look_set, look_cons, in_int, in_U, in_loc, Nat.reduceEqDiff, if_true, if_false, List.contains_cons, List.contains_nil, Nat.reduceBEq, beq_self_eq_true, Bool.or_true, Bool.or_false, p1])
  simp only [Nat.reduceLT, if_true, h42]
  by_cases ha : ¬ a.ok = true
  · exact ⟨m, by simp only [look_set, loc_bool, if_true, if_false, Bool.false_and, Bool.not_false, Bool.false_eq_true, ha]⟩
  have ha : a.ok = true := Decidable.of_not_not ha
  by_cases hb : ¬ b.ok = true
  · exact ⟨m, by simp only [look_set, loc_bool, if_true, if_false, Bool.false_and, Bool.and_false, Bool.not_false, Bool.false_eq_true, ha, hb]⟩
  have hb : b.ok = true := Decidable.of_not_not hb
  by_cases h4 : 40 < l.length
  · exact ⟨m, by simp only [look_set, loc_bool, if_true, if_false, Bool.false_and, Bool.and_false, Bool.not_true, Bool.not_false, Bool.false_eq_true, decide_true, ha, hb, h4]⟩
  by_cases hc : ¬ checkV l = 0
  · exact ⟨m, by simp only [look_set, loc_bool, if_true, if_false, Bool.and_false, Bool.not_false, Bool.false_eq_true, decide_false, ha, hb, h4, hc]⟩
  have hc : checkV l = 0 := Decidable.of_not_not hc
  have hlen : l.length ≤ 1000000 := by omega
  obtain ⟨hok, hpw, h32⟩ := checkV_law hc
  obtain ⟨o1, o2, o3, o4⟩ := ok_range ha
  obtain ⟨g1, g2⟩ := pickI_range lv (a.to - a.fr + 1) (by omega)
  obtain ⟨g3, g4⟩ := pickI_range ac 16 (by omega)
  have pk := pick_spec n (by omega) ac 16 (by omega) (by omega) m
  simp only [look_set, look_cons, lookL, loc_int, Nat.reduceEqDiff, Nat.reduceLT, if_true, if_false, Bool.and_true, Bool.not_true, Bool.not_false, Bool.false_eq_true, Nat.succ_ne_self, decide_true, decide_false, ha, hb, h4, hc, hk1, pk]
  generalize hq : codeEv (run A n) (ev A n).2 a4_R2 _ = q
  obtain ⟨T2, rfl, hk2⟩ := a4_R2_ok v l m hv a b set pend lv (pickI ac 16) ha n (by omega) _ _ q hq (by simp only [keepT, List.map, look_set, look_cons, in_int, in_U, in_loc, Nat.reduceEqDiff, if_true, if_false, List.contains_cons, List.contains_nil, Nat.reduceBEq, beq_self_eq_true, Bool.or_true, Bool.or_false, p1])
  simp only []
  generalize hq : codeEv (run A n) (ev A n).2 a4_R3 _ = q
  obtain ⟨T3, rfl, hk3⟩ := a4_R3_ok v l m hv a b set pend (a.fr + pickI lv (a.to - a.fr + 1)) (pickI ac 16) n (by omega) _ _ q hq hk2
  simp only []
  generalize hq : codeEv (run A n) (ev A n).2 a4_R4 _ = q
  obtain ⟨T4, rfl, hk4⟩ := a4_R4_ok v l m hv a b (a.must ||| (set &&& a.may)) pend (a.fr + pickI lv (a.to - a.fr + 1)) (pickI ac 16) ha hlen n (by omega) _ _ q hq hk3
  have s1 : Sub a.must (a.must ||| (set &&& a.may)) := Sub.orL _ _
  have s2 : Sub (a.must ||| (set &&& a.may)) a.may := Sub.or o1 (Sub.andR _ _)
  have hh : a.has (a.must ||| (set &&& a.may)) (a.fr + pickI lv (a.to - a.fr + 1)) = true := by
    unfold Mk.has
    rw [ha, (sub_iff _ _).2 s1, (sub_iff _ _).2 s2]
    simp only [decide_true, Bool.true_and, Bool.and_eq_true, decide_eq_true_eq]
    omega
  simp only []
  generalize hq : codeEv (run A n) (ev A n).2 a4_R5 _ = q
  obtain ⟨T5, rfl, hk5, h81⟩ := a4_R5_ok v l m hv a b (a.must ||| (set &&& a.may)) pend (a.fr + pickI lv (a.to - a.fr + 1)) (pickI ac 16) _ _ hh (those_sub hc o1 o4 (Int.le_refl _)) n (by omega) _ _ q hq hk4
  simp only [Nat.reduceLT, if_true, if_false, Bool.false_eq_true, h81]
  generalize hq : codeEv (run A n) (ev A n).2 a4_R6 _ = q
  obtain ⟨T6, rfl, hk6⟩ := a4_R6_ok v l m hv a b (a.must ||| (set &&& a.may)) pend (a.fr + pickI lv (a.to - a.fr + 1)) (pickI ac 16) _ _ n (by omega) _ _ q hq hk5
  simp only []
  generalize hq : codeEv (run A n) (ev A n).2 a4_R7 _ = q
  have B := take_best hc pend (a.must ||| (set &&& a.may)) (a.fr + pickI lv (a.to - a.fr + 1)) (pickI ac 16)
  obtain ⟨T7, rfl, hk7, h99⟩ := a4_R7_ok v l m hv a b (a.must ||| (set &&& a.may)) pend (a.fr + pickI lv (a.to - a.fr + 1)) (pickI ac 16) _ _ _ _ (by
    intro his
    cases hr : takeR pend (a.must ||| (set &&& a.may)) (a.fr + pickI lv (a.to - a.fr + 1)) (pickI ac 16) l with
    | none => rw [hr] at his; cases his
    | some kw =>
      obtain ⟨k, w⟩ := kw
      rw [hr] at B
      obtain ⟨b1, b2, _⟩ := B
      rw [elig_iff] at b2
      have hk32 : k < 32 := by have := (List.getElem?_eq_some_iff.1 b1).1; omega
      refine ⟨k, (bI_max _ _ _ rfl).1, hk32, ?_⟩
      rw [those_bit hc _ _ _ k hk32]
      exact ⟨w, b1, hasI_sub s2 b2.2.1, by omega, b2.2.2.2⟩) n (by omega) _ _ q hq hk6
  simp only [lookL, Nat.reduceEqDiff, Nat.reduceLT, if_true, if_false, Bool.false_eq_true, Nat.succ_ne_self, h99, hk7]
  generalize hq : codeEv (run A n) (ev A n).2 a4_L1 _ = q
  have H : ∀ (i : Nat) (x : V), l[i]? = some x → (those a.must a.to (pickI ac 16) l).getLsbD i = true → decide (0 ≤ bI (takeR (1#32 <<< x.line.toNat) (a.must ||| (set &&& a.may)) (a.fr + pickI lv (a.to - a.fr + 1)) (pickI ac 16) l)) = true ∧ max 0 (bI (takeR (1#32 <<< x.line.toNat) (a.must ||| (set &&& a.may)) (a.fr + pickI lv (a.to - a.fr + 1)) (pickI ac 16) l)) = i := by
    intro i x hx hs
    have hi32 : i < 32 := by have := (List.getElem?_eq_some_iff.1 hx).1; omega
    rw [those_bit hc _ _ _ i hi32] at hs
    obtain ⟨x', hx', f1, f2, f3⟩ := hs
    rw [hx] at hx'; cases hx'
    have ho := okV_law (hok x (List.mem_of_getElem? hx))
    have he : elig (1#32 <<< x.line.toNat) (a.must ||| (set &&& a.may)) (a.fr + pickI lv (a.to - a.fr + 1)) (pickI ac 16) x = true := by
      rw [elig_iff, hasI_one _ (by omega)]
      exact ⟨decide_eq_true (by omega), hasI_sub s1 f1, by omega, f3⟩
    have B2 := take_best hc (1#32 <<< x.line.toNat) (a.must ||| (set &&& a.may)) (a.fr + pickI lv (a.to - a.fr + 1)) (pickI ac 16)
    cases hr : takeR (1#32 <<< x.line.toNat) (a.must ||| (set &&& a.may)) (a.fr + pickI lv (a.to - a.fr + 1)) (pickI ac 16) l with
    | none => rw [hr] at B2; rw [B2 i x hx] at he; cases he
    | some kw =>
      obtain ⟨k, w⟩ := kw
      rw [hr] at B2
      obtain ⟨b1, b2, _⟩ := B2
      rw [elig_iff, hasI_one _ (by omega)] at b2
      have hwl := of_decide_eq_true b2.1
      have hki : k = i := by
        apply Classical.byContradiction
        intro hne
        exact pair_ne hpw b1 hx hne (by omega)
      subst hki
      exact ⟨(bI_max _ _ _ rfl).2, (bI_max _ _ _ rfl).1⟩
  obtain ⟨T8, rfl, hk8⟩ := taken_loop v l m hv a b (a.must ||| (set &&& a.may)) pend (a.fr + pickI lv (a.to - a.fr + 1)) (pickI ac 16) (those a.may a.fr (pickI ac 16) l) _ hc H l 0 n _ q rfl (by omega) hq (by simp only [keepT, List.map, look_set, look_cons, in_int, in_U, in_loc, Nat.reduceEqDiff, if_true, if_false, List.contains_cons, List.contains_nil, Nat.reduceBEq, beq_self_eq_true, Bool.or_true, Bool.or_false, p1, Int.ofNat_zero])
  obtain ⟨n', rfl⟩ : ∃ n', n = n' + 2 := ⟨n - 2, by omega⟩
  have hj := join_mk n' a b m
  have hjo := join_ok ha hb
  have w1 := within_joinL ha hb
  have w2 := within_joinR ha hb
  generalize a.join b = j at *
  obtain ⟨_, _, y1, y2, y3, y4⟩ := within_iff.1 w1
  simp only [av_cells] at hj
  have hk8' : keepT [5, 6, 7, 8, 15, 16] [7, 8] T8 = [(5, .int .i64 (pickI ac 16)), (6, v), (7, .loc 7 0), (8, .loc 8 0), (15, U (those a.may a.fr (pickI ac 16) l)), (16, U (those a.must a.to (pickI ac 16) l))] := by
    unfold keepT at hk8 ⊢
    simp only [List.map, List.cons.injEq, Prod.mk.injEq, and_true, true_and] at hk8 ⊢
    exact ⟨hk8.2.2.1, hk8.2.2.2.1, hk8.2.2.2.2.1, hk8.2.2.2.2.2.1, hk8.2.2.2.2.2.2.1, hk8.2.2.2.2.2.2.2⟩
  simp only [look_set, look_cons, lookL, setL, cellsAt_cons, one_int, loc_agg, cells_agg, one_U, List.append_nil, List.length, List.take, List.drop, List.all, List.nil_append, List.take_succ_cons, List.drop_succ_cons, Nat.reduceEqDiff, Nat.reduceAdd, Nat.reduceLeDiff, Nat.reduceLT, if_true, if_false, Bool.and_true, Bool.or_false, Bool.not_false, List.isEmpty_cons, Bool.false_eq_true, Nat.succ_ne_self, hk8', hj]
  generalize hq : codeEv (run A (n' + 2)) (ev A (n' + 2)).2 a4_R10 _ = q
  obtain ⟨T9, rfl, h14⟩ := a4_R10_ok v l m hv a b (a.must ||| (set &&& a.may)) pend (a.fr + pickI lv (a.to - a.fr + 1)) (pickI ac 16) _ _ j hlen ha hjo w1 w2 g3 (by omega) (those_sub hc y1 y3 (Int.le_refl _)) (those_sub hc y2 y4 (Int.le_refl _)) (those_sub hc (Sub.refl _) (Int.le_refl _) (by omega)) (n' + 2) (by omega) _ _ q hq (by simp only [keepT, List.map, look_set, look_cons, in_int, in_U, in_loc, Nat.reduceEqDiff, if_true, if_false, List.contains_cons, List.contains_nil, Nat.reduceBEq, beq_self_eq_true, Bool.or_true, Bool.or_false, p1])
  exact ⟨m, by simp only [loc_bool, if_false, Bool.false_eq_true, h14]⟩

end AG
