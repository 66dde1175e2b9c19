/- What the functions of sets and vectors compute, and the laws of that. -/
import Derived.Test.YtenhcejelicjfaaDoorAgLnE
namespace AG
open Go Go.Proofs.YtenhcejelicjfaaDoor
set_option maxRecDepth 100000
set_option maxHeartbeats 4000000



theorem keepT_setT (ts ls : List Nat) (l : List (Nat × AV)) (t : Nat) (v : AV) : keepT ts ls (setT l t v) = ts.map fun u => (u, if (look (setT l t v) u).locIn ls then look (setT l t v) u else .unk) := rfl
theorem keepT_lit (ts ls : List Nat) (l : List (Nat × AV)) (x : Nat × AV) : keepT ts ls (x :: l) = ts.map fun u => (u, if (look (x :: l) u).locIn ls then look (x :: l) u else .unk) := rfl
theorem okV_law {v : V} (h : okV v = true) : 0 ≤ v.line ∧ v.line ≤ 31 ∧ 1 ≤ v.prio ∧ v.prio ≤ 15 ∧ 0 ≤ v.fn := by
  unfold okV at h
  simp only [Bool.and_eq_true, Bool.not_eq_true', decide_eq_false_iff_not] at h
  omega
theorem elig_iff {P E : BitVec 32} {lv ac : Int} {x : V} : elig P E lv ac x = true ↔ hasI P x.line = true ∧ hasI E x.line = true ∧ lv < x.prio ∧ ac < x.prio := by
  rw [← soI_elig]
  unfold soI
  simp only [Bool.and_eq_true, decide_eq_true_eq]
theorem hasI_or_l {P M : BitVec 32} {k : Int} (h : hasI P k = true) : hasI (P ||| M) k = true := by
  unfold hasI at *
  simp only [Bool.and_eq_true, decide_eq_true_eq, BitVec.getLsbD_or, Bool.or_eq_true] at *
  exact ⟨h.1, h.2.1, .inl h.2.2⟩
theorem gt_prio {a b : V} (h : gt a b = true) : b.prio ≤ a.prio := by
  unfold gt at h
  simp only [Bool.or_eq_true, Bool.and_eq_true, decide_eq_true_eq] at h
  omega

/-- With more lines one with at least that priority is taken. -/
theorem more_law {l : List V} {P E M : BitVec 32} {lv ac : Int} {k : Nat} {w : V} {r : Option (Nat × V)} (h1 : l[k]? = some w) (h2 : elig P E lv ac w = true) (hb : Best (elig (P ||| M) (E ||| M) lv ac) l r) :
    ∃ k2 w2, r = some (k2, w2) ∧ l[k2]? = some w2 ∧ ¬ w2.prio < w.prio := by
  have he : elig (P ||| M) (E ||| M) lv ac w = true := by
    rw [elig_iff] at *
    exact ⟨hasI_or_l h2.1, hasI_or_l h2.2.1, h2.2.2⟩
  cases r with
  | none => rw [hb k w h1] at he; cases he
  | some kw =>
    obtain ⟨k2, w2⟩ := kw
    obtain ⟨b1, b2, b3⟩ := hb
    refine ⟨k2, w2, rfl, b1, ?_⟩
    by_cases hk : k = k2
    · subst hk; rw [h1] at b1; cases b1; omega
    · have := gt_prio (b3 k w h1 he hk); omega

/-- With a higher level none that was not above it. -/
theorem up_law {l : List V} (hv : ∀ v ∈ l, okV v = true) {P E : BitVec 32} {lv ac up : Int} (hup : 0 ≤ up) {r1 : Option (Nat × V)} (hb1 : Best (elig P E lv ac) l r1) {k2 : Nat} {w2 : V} (hb : Best (elig P E (min lv 1000 + min up 20) ac) l (some (k2, w2))) :
    r1 = some (k2, w2) ∧ l[k2]? = some w2 ∧ min lv 1000 + min up 20 < w2.prio := by
  obtain ⟨b1, b2, b3⟩ := hb
  have hp := okV_law (hv w2 (List.mem_of_getElem? b1))
  rw [elig_iff] at b2
  have he : elig P E lv ac w2 = true := by rw [elig_iff]; exact ⟨b2.1, b2.2.1, by omega, b2.2.2.2⟩
  refine ⟨?_, b1, b2.2.2.1⟩
  cases r1 with
  | none => rw [hb1 k2 w2 b1] at he; cases he
  | some kw =>
    obtain ⟨k, w⟩ := kw
    obtain ⟨a1, a2, a3⟩ := hb1
    by_cases hk : k2 = k
    · subst hk; rw [b1] at a1; cases a1; rfl
    · have g := a3 k2 w2 b1 he hk
      rw [elig_iff] at a2
      have hw : elig P E (min lv 1000 + min up 20) ac w = true := by
        rw [elig_iff]; exact ⟨a2.1, a2.2.1, by have := gt_prio g; omega, a2.2.2.2⟩
      have g2 := b3 k w a1 hw (fun h => hk h.symm)
      rw [gt_asymm g] at g2; cases g2

theorem bI_max (r : Option (Nat × V)) (k : Nat) (w : V) (h : r = some (k, w)) : max 0 (bI r) = (k : Int) ∧ decide (0 ≤ bI r) = true := by
  subst h
  simp only [bI]
  exact ⟨by omega, by simp⟩
theorem bI_none (r : Option (Nat × V)) (h : r = none) : max 0 (bI r) = 0 ∧ decide (0 ≤ bI r) = false := by
  subst h; exact ⟨rfl, rfl⟩

theorem takes_run (n : Nat) (hn : 60 ≤ n) (P E M : BitVec 32) (lv ac up : Int) (hlv : -9223372036854775808 ≤ lv) (m0 m : Mem) (hl0 : run A n 11 [] m0 = some (.bool true, m)) (v : AV) (l : List V) (hv : VS m v l) (hmn : m.n + 6 ≤ 2 ^ depth) :
    ∃ m', run A (n + 1) 3 [U P, U E, U M, .int .i64 lv, .int .i64 ac, .int .i64 up, v] m0 = some (.bool true, m') := by
  rw [run_3]
  unfold fnEv a3
  obtain ⟨p1, p2, p3, p4⟩ := hv.plain
  simp only [codeEv, opsEv, oneEv, guardEv, opEv, St.opd, look_set, look_cons, St.put, argsT, resEv, in_int, in_U, loc_int, unEv, callWith, keepL, List.map, List.length, List.any, Option.map_some, Nat.reduceEqDiff, Nat.reduceAdd, Nat.reduceLT, if_true, if_false, Bool.or_false, Bool.not_true, Bool.false_eq_true, Nat.succ_ne_self, keepT_setT, keepT_lit, p1, hl0]
  generalize hq : codeEv (run A n) (ev A n).2 a3_R1 _ = q
  obtain ⟨T1, rfl, hk1, h32⟩ := a3_R1_ok v l m hv P E M lv ac up 0 false n (by omega) _ _ _ q hq (by simp only [keepT, List.map, look_set, look_cons, in_int, in_U, Nat.reduceEqDiff, if_true, if_false, p1])
  simp only [Nat.reduceLT, if_true, h32]
  by_cases hc40 : 40 < l.length
  · exact ⟨m, by simp only [look_set, loc_bool, if_true, if_false, Bool.true_or, Bool.false_eq_true, decide_true, hc40]⟩
  have hlen : l.length ≤ 1000000 := by omega
  by_cases hc : ¬ checkV l = 0
  · exact ⟨m, by simp only [look_set, loc_bool, if_true, if_false, Bool.or_true, Bool.not_false, Bool.false_eq_true, decide_false, hc40, hc]⟩
  have hc : checkV l = 0 := Decidable.of_not_not hc
  simp only [if_false, Bool.or_false, Bool.not_true, Bool.false_eq_true, decide_true, decide_false, hc40, hc]
  have B1 := take_best hc P E lv ac
  have B2 := take_best hc (P ||| M) (E ||| M) lv ac
  have B3 := take_best hc P E (min lv 1000 + min up 20) ac
  obtain ⟨hok, hpw, h32l⟩ := checkV_law hc
  generalize hq : codeEv (run A n) (ev A n).2 a3_R2 _ = q
  obtain ⟨T2, m2, rfl, x2, n2, hk2⟩ := a3_R2_ok v l m hv P E M lv ac up 0 false 0 false hlen (by omega) n (by omega) _ _ _ q hq hk1
  simp only [Nat.reduceLT, if_true, hk2]
  generalize hq : codeEv (run A n) (ev A n).2 a3_L1 _ = q
  have hv2 := hv.ext x2
  have L1 : (∀ (i : Nat) (x : V), l[i]? = some x → soI P E lv ac x = true → decide (0 ≤ bI (takeR P E lv ac l)) = true) ∧ (∀ (i : Nat) (x : V), l[i]? = some x → decide (0 ≤ bI (takeR P E lv ac l)) = true → (i : Int) = max 0 (bI (takeR P E lv ac l)) → soI P E lv ac x = true) ∧
      (∀ (i : Nat) (x : V), l[i]? = some x → soI P E lv ac x = true → (i : Int) ≠ max 0 (bI (takeR P E lv ac l)) → ∃ (kk : Nat) (w : V), max 0 (bI (takeR P E lv ac l)) = kk ∧ l[kk]? = some w ∧ gt x w = false) := by
    cases hr : (takeR P E lv ac l) with
    | none =>
      rw [hr] at B1
      refine ⟨fun i x hx hs => ?_, fun i x hx hs => ?_, fun i x hx hs => ?_⟩
      · rw [soI_elig, B1 i x hx] at hs; cases hs
      · cases hs
      · rw [soI_elig, B1 i x hx] at hs; cases hs
    | some kw =>
      obtain ⟨k, w⟩ := kw
      rw [hr] at B1
      obtain ⟨b1, b2, b3⟩ := B1
      obtain ⟨e1, e2⟩ := bI_max _ k w rfl
      rw [e1, e2]
      refine ⟨fun _ _ _ _ => rfl, fun i x hx _ hi => ?_, fun i x hx hs hi => ⟨k, w, rfl, b1, gt_asymm (b3 i x hx (by rw [← soI_elig]; exact hs) (fun h => hi (by rw [h])))⟩⟩
      have : i = k := by omega
      subst this
      rw [hx] at b1; cases b1
      rw [soI_elig]; exact b2
  obtain ⟨T3, L3, rfl, hk3⟩ := takes_loop v l m2 hv2 P E M lv ac up _ _ hlen L1.1 L1.2.1 L1.2.2 l 0 n _ _ q rfl (by omega) hq (by simp only [keepT, List.map, look_set, look_cons, in_int, in_U, in_bool, Nat.reduceEqDiff, if_true, if_false, p1, Int.ofNat_zero])
  simp only [if_true]
  generalize hq : codeEv (run A n) (ev A n).2 a3_R6 _ = q
  obtain ⟨T4, m4, rfl, x4, n4, hk4⟩ := a3_R6_ok v l m2 hv2 P E M lv ac up _ _ 0 false hlen (by omega) n (by omega) _ _ _ q hq hk3
  have hv4 := hv2.ext x4
  simp only []
  generalize hq : codeEv (run A n) (ev A n).2 a3_R7 _ = q
  obtain ⟨T5, rfl, hk5, h174⟩ := a3_R7_ok v l m4 hv4 P E M lv ac up _ _ _ _ (by
    intro his
    cases hr : (takeR P E lv ac l) with
    | none => rw [hr] at his; cases his
    | some kw =>
      obtain ⟨k, w⟩ := kw
      rw [hr] at B1
      obtain ⟨b1, b2, b3⟩ := B1
      obtain ⟨k2, w2, e2, f1, f2⟩ := more_law (M := M) b1 b2 B2
      obtain ⟨g1, g2⟩ := bI_max _ k w rfl
      obtain ⟨g3, g4⟩ := bI_max _ k2 w2 e2
      exact ⟨g4, k, k2, w, w2, g1, b1, g3, f1, f2⟩) n _ _ _ q hq hk4
  simp only [look_set, look_cons, bin_ilt, List.map, Option.map_some, Nat.reduceEqDiff, Nat.reduceLT, if_true, if_false, Bool.false_eq_true, Nat.succ_ne_self, keepT_setT, h174, hk5]
  by_cases hup : up < 0
  · exact ⟨m4, by simp only [look_set, loc_bool, if_true, if_false, Bool.false_eq_true, decide_true, hup]⟩
  simp only [look_set, look_cons, in_int, in_U, in_bool, loc_int, List.map, Nat.reduceEqDiff, Nat.reduceLT, if_true, if_false, Bool.false_eq_true, Nat.succ_ne_self, decide_false, keepT_setT, hup]
  have hl1 : min lv 1000 ≤ 1000 := by omega
  have hm1 : minEv (.int .i64 up) [.int .i64 20] = some (.int .i64 (min up 20)) := min_i _ _
  have hm2 : minEv (.int .i64 lv) [.int .i64 1000] = some (.int .i64 (min lv 1000)) := min_i _ _
  have hadd : binEv .add (.int .i64 (min lv 1000)) (.int .i64 (min up 20)) = some (.int .i64 (min lv 1000 + min up 20)) := add_ok _ _ (by omega) (by omega)
  simp only [look_set, look_cons, in_int, in_U, in_bool, loc_int, List.map, Option.map_some, Nat.reduceEqDiff, Nat.reduceLT, if_true, if_false, Bool.false_eq_true, Nat.succ_ne_self, keepT_setT, hm1, hm2, p1]
  generalize hq : codeEv (run A n) (ev A n).2 a3_R8 _ = q
  obtain ⟨T6, m6, rfl, x6, n6, hk6⟩ := a3_R8_ok v l m4 hv4 P E M (min lv 1000) ac (min up 20) (max 0 (bI (takeR P E lv ac l))) (decide (0 ≤ bI (takeR P E lv ac l))) 0 false hlen (by omega) hadd n (by omega) _ _ _ q hq (by simp only [keepT, List.map, look_set, look_cons, in_int, in_U, in_bool, Nat.reduceEqDiff, if_true, if_false, p1])
  have hv6 := hv4.ext x6
  simp only []
  generalize hq : codeEv (run A n) (ev A n).2 a3_R9 _ = q
  obtain ⟨T7, rfl, h14⟩ := a3_R9_ok v l m6 hv6 P E M (min lv 1000) ac (min up 20) _ _ _ _ hadd (by
    intro his
    cases hr : (takeR P E ((min lv 1000) + (min up 20)) ac l) with
    | none => rw [hr] at his; cases his
    | some kw =>
      obtain ⟨k2, w2⟩ := kw
      rw [hr] at B3
      obtain ⟨f1, f2, f3⟩ := up_law hok (by omega) B1 B3
      obtain ⟨g1, g2⟩ := bI_max _ k2 w2 f1
      obtain ⟨g3, g4⟩ := bI_max _ k2 w2 (rfl : some (k2, w2) = some (k2, w2))
      exact ⟨g2, g3.trans g1.symm, k2, w2, g3, f2, f3⟩) n _ _ _ q hq hk6
  exact ⟨m6, by simp only [loc_bool, if_false, Bool.false_eq_true, h14]⟩

end AG
