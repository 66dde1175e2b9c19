/- What the functions of sets and vectors compute, and the laws of that. -/
import Derived.Test.YtenhcejelicjfaaDoorAgLnC
namespace AG
open Go Go.Proofs.YtenhcejelicjfaaDoor
set_option maxRecDepth 100000
set_option maxHeartbeats 4000000



def soI (P E : BitVec 32) (lv ac : Int) (x : V) : Bool := hasI P x.line && (hasI E x.line && (decide (lv < x.prio) && decide (ac < x.prio)))
theorem hasI_and (P E : BitVec 32) (k : Int) : hasI (P &&& E) k = (hasI P k && hasI E k) := by
  unfold hasI
  rw [BitVec.getLsbD_and]
  cases decide (0 ≤ k) <;> cases decide (k < 32) <;> simp
theorem soI_elig (P E : BitVec 32) (lv ac : Int) (x : V) : soI P E lv ac x = elig P E lv ac x := by
  unfold soI elig
  rw [hasI_and, Bool.and_assoc]
  congr 2
  rw [Bool.eq_iff_iff]
  simp only [Bool.and_eq_true, decide_eq_true_eq]
  omega
theorem idx_ok {l : List V} {i : Nat} {x : V} (h : l[i]? = some x) : (0 : Int) ≤ i ∧ (i : Int) < l.length := by
  have := (List.getElem?_eq_some_iff.1 h).1
  omega

theorem a3_R3_ok (v : AV) (l : List V) (m : Mem) (hv : VS m v l) (P E M : BitVec 32) (lv ac up k : Int) (is : Bool) (i : Nat) (x : V) (hx : l[i]? = some x) (N : Nat) (hN : 1 ≤ N) (again : AC → St → Option (Ex × St)) (T : List (Nat × AV)) (L : List (Nat × List AV)) (q : _)
    (hq : codeEv (run A N) again a3_R3 ⟨213, T, L, m⟩ = q) (hk : keepT [0, 1, 2, 3, 4, 5, 6, 15, 16, 17] [] T = [(0, U P), (1, U E), (2, U M), (3, .int .i64 lv), (4, .int .i64 ac), (5, .int .i64 up), (6, v), (15, .int .i64 k), (16, .bool is), (17, .int .i64 (i : Int))]) :
    ∃ T', q = some (.norm, ⟨213, T', [], m⟩) ∧ keepT [0, 1, 2, 3, 4, 5, 6, 15, 16, 17, 18] [] T' = [(0, U P), (1, U E), (2, U M), (3, .int .i64 lv), (4, .int .i64 ac), (5, .int .i64 up), (6, v), (15, .int .i64 k), (16, .bool is), (17, .int .i64 (i : Int)), (18, .bool (soI P E lv ac x))] := by
  subst hq
  have hi := idx_ok hx
  rcases hv with ⟨rfl, rfl⟩ | ⟨b, o, cap, e, rfl, hm⟩
  · cases hx
  obtain ⟨c, own, hc, hc3⟩ := hm i x hx
  obtain ⟨hp, hl0, _⟩ := cells_fld hc3
  have hs := fun s => has_spec N hN s x.line m
  unfold a3_R3 soI
  rw [codeEv_keep, hk, keepL_nil]
  by_cases c1 : hasI P x.line = true
  · by_cases c2 : hasI E x.line = true
    · by_cases c3 : lv < x.prio
      · by_cases c4 : ac < x.prio
        · exact ⟨_, (by simp only [codeEv, opsEv, oneEv, guardEv, opEv, St.opd, look_set, look_cons, St.put, St.read, bin_igt, loc_int, loc_U, callWith, List.map, List.any, Option.map_some, Nat.reduceEqDiff, Nat.reduceLT, if_true, if_false, Bool.or_false, beq_self_eq_true, Bool.false_eq_true, Nat.succ_ne_self, decide_true, hi, and_self, Int.toNat_natCast, hc, hp, hl0, hs, c1, c2, c3, c4]; rfl), (by simp only [keepT, List.map, look_set, look_cons, in_int, in_U, in_bool, in_slice, Nat.reduceEqDiff, if_true, if_false, c1, c2, c3, c4, decide_true, Bool.and_true])⟩
        · exact ⟨_, (by simp only [codeEv, opsEv, oneEv, guardEv, opEv, St.opd, look_set, look_cons, St.put, St.read, bin_igt, loc_int, loc_U, callWith, List.map, List.any, Option.map_some, Nat.reduceEqDiff, Nat.reduceLT, if_true, if_false, Bool.or_false, beq_self_eq_true, Bool.false_eq_true, Nat.succ_ne_self, decide_true, decide_false, hi, and_self, Int.toNat_natCast, hc, hp, hl0, hs, c1, c2, c3, c4]; rfl), (by simp only [keepT, List.map, look_set, look_cons, in_int, in_U, in_bool, in_slice, Nat.reduceEqDiff, if_true, if_false, c1, c2, c3, c4, decide_true, decide_false, Bool.and_false])⟩
      · exact ⟨_, (by simp only [codeEv, opsEv, oneEv, guardEv, opEv, St.opd, look_set, look_cons, St.put, St.read, bin_igt, loc_int, loc_U, callWith, List.map, List.any, Option.map_some, Nat.reduceEqDiff, Nat.reduceLT, if_true, if_false, Bool.or_false, beq_self_eq_true, Bool.false_eq_true, Nat.succ_ne_self, decide_false, beq_ft, hi, and_self, Int.toNat_natCast, hc, hp, hl0, hs, c1, c2, c3]; rfl), (by simp only [keepT, List.map, look_set, look_cons, in_int, in_U, in_bool, in_slice, Nat.reduceEqDiff, if_true, if_false, c1, c2, c3, decide_false, Bool.false_and, Bool.and_false])⟩
    · exact ⟨_, (by simp only [codeEv, opsEv, oneEv, guardEv, opEv, St.opd, look_set, look_cons, St.put, St.read, loc_int, loc_U, callWith, List.map, List.any, Nat.reduceEqDiff, Nat.reduceLT, if_true, if_false, Bool.or_false, beq_self_eq_true, Bool.false_eq_true, Nat.succ_ne_self, beq_ft, hi, and_self, Int.toNat_natCast, hc, hl0, hs, c1, c2]; rfl), (by simp only [keepT, List.map, look_set, look_cons, in_int, in_U, in_bool, in_slice, Nat.reduceEqDiff, if_true, if_false, c1, c2, Bool.false_and, Bool.and_false])⟩
  · exact ⟨_, (by simp only [codeEv, opsEv, oneEv, guardEv, opEv, St.opd, look_set, look_cons, St.put, St.read, loc_int, loc_U, callWith, List.map, List.any, Nat.reduceEqDiff, Nat.reduceLT, if_true, if_false, Bool.or_false, Bool.false_eq_true, Nat.succ_ne_self, beq_ft, hi, and_self, Int.toNat_natCast, hc, hl0, hs, c1]; rfl), (by simp only [keepT, List.map, look_set, look_cons, in_int, in_U, in_bool, in_slice, Nat.reduceEqDiff, if_true, if_false, c1, Bool.false_and])⟩

--CUT
theorem a3_R4_ok (v : AV) (l : List V) (m : Mem) (hv : VS m v l) (P E M : BitVec 32) (lv ac up k : Int) (is : Bool) (i : Nat) (so : Bool) (h1 : so = true → is = true) (h2 : is = true → (i : Int) = k → so = true) (N : Nat) (again : AC → St → Option (Ex × St)) (T : List (Nat × AV)) (L : List (Nat × List AV)) (q : _)
    (hq : codeEv (run A N) again a3_R4 ⟨213, T, L, m⟩ = q) (hk : keepT [0, 1, 2, 3, 4, 5, 6, 15, 16, 17, 18] [] T = [(0, U P), (1, U E), (2, U M), (3, .int .i64 lv), (4, .int .i64 ac), (5, .int .i64 up), (6, v), (15, .int .i64 k), (16, .bool is), (17, .int .i64 (i : Int)), (18, .bool so)]) :
    ∃ T', q = some (.norm, ⟨213, T', [], m⟩) ∧ keepT [0, 1, 2, 3, 4, 5, 6, 15, 16, 17, 18] [] T' = [(0, U P), (1, U E), (2, U M), (3, .int .i64 lv), (4, .int .i64 ac), (5, .int .i64 up), (6, v), (15, .int .i64 k), (16, .bool is), (17, .int .i64 (i : Int)), (18, .bool so)] ∧ look T' 98 = .bool false := by
  subst hq
  obtain ⟨p1, p2, p3, p4⟩ := hv.plain
  unfold a3_R4
  rw [codeEv_keep, hk, keepL_nil]
  cases so
  · cases is
    · exact ⟨_, (by simp only [codeEv, opsEv, oneEv, guardEv, opEv, St.opd, look_set, look_cons, St.put, Nat.reduceEqDiff, Nat.reduceLT, if_true, if_false, beq_self_eq_true, Bool.false_eq_true, Nat.succ_ne_self, beq_ft]; rfl), (by simp only [keepT, List.map, look_set, look_cons, in_int, in_U, in_bool, Nat.reduceEqDiff, if_true, if_false, p1]), (by simp only [look_set, look_cons, Nat.reduceEqDiff, if_true, if_false])⟩
    · have c : ¬ ((i : Int) = k) := fun h => by cases h2 rfl h
      exact ⟨_, (by simp only [codeEv, opsEv, oneEv, guardEv, opEv, St.opd, look_set, look_cons, St.put, bin_ieq, Option.map_some, Nat.reduceEqDiff, Nat.reduceLT, if_true, if_false, beq_self_eq_true, Bool.false_eq_true, Nat.succ_ne_self, decide_false, beq_ft, c]; rfl), (by simp only [keepT, List.map, look_set, look_cons, in_int, in_U, in_bool, Nat.reduceEqDiff, if_true, if_false, p1]), (by simp only [look_set, look_cons, Nat.reduceEqDiff, if_true, if_false])⟩
  · have := h1 rfl
    subst this
    by_cases c : (i : Int) = k
    · have c := eq_true c
      exact ⟨_, (by simp only [codeEv, opsEv, oneEv, guardEv, opEv, St.opd, look_set, look_cons, St.put, bin_ieq, unEv, Option.map_some, Nat.reduceEqDiff, Nat.reduceLT, if_true, if_false, Bool.not_true, beq_self_eq_true, Bool.false_eq_true, Nat.succ_ne_self, decide_true, c]; rfl), (by simp only [keepT, List.map, look_set, look_cons, in_int, in_U, in_bool, Nat.reduceEqDiff, if_true, if_false, p1]), (by simp only [look_set, look_cons, Nat.reduceEqDiff, if_true, if_false])⟩
    · exact ⟨_, (by simp only [codeEv, opsEv, oneEv, guardEv, opEv, St.opd, look_set, look_cons, St.put, bin_ieq, unEv, Option.map_some, Nat.reduceEqDiff, Nat.reduceLT, if_true, if_false, Bool.not_true, beq_self_eq_true, Bool.false_eq_true, Nat.succ_ne_self, decide_false, beq_ft, c]; rfl), (by simp only [keepT, List.map, look_set, look_cons, in_int, in_U, in_bool, Nat.reduceEqDiff, if_true, if_false, p1]), (by simp only [look_set, look_cons, Nat.reduceEqDiff, if_true, if_false])⟩

--CUT
theorem a3_R5_ok (v : AV) (l : List V) (m : Mem) (hv : VS m v l) (P E M : BitVec 32) (lv ac up k : Int) (is : Bool) (i : Nat) (x : V) (hx : l[i]? = some x) (so : Bool) (h3 : so = true → (i : Int) ≠ k → ∃ (kk : Nat) (w : V), k = kk ∧ l[kk]? = some w ∧ gt x w = false) (N : Nat) (again : AC → St → Option (Ex × St)) (T : List (Nat × AV)) (L : List (Nat × List AV)) (q : _)
    (hq : codeEv (run A N) again a3_R5 ⟨213, T, L, m⟩ = q) (hk : keepT [0, 1, 2, 3, 4, 5, 6, 15, 16, 17, 18] [] T = [(0, U P), (1, U E), (2, U M), (3, .int .i64 lv), (4, .int .i64 ac), (5, .int .i64 up), (6, v), (15, .int .i64 k), (16, .bool is), (17, .int .i64 (i : Int)), (18, .bool so)]) :
    ∃ T', q = some (.norm, ⟨213, T', [], m⟩) ∧ keepT [0, 1, 2, 3, 4, 5, 6, 15, 16, 17] [] T' = [(0, U P), (1, U E), (2, U M), (3, .int .i64 lv), (4, .int .i64 ac), (5, .int .i64 up), (6, v), (15, .int .i64 k), (16, .bool is), (17, .int .i64 (i : Int))] ∧ look T' 143 = .bool false := by
  subst hq
  obtain ⟨p1, p2, p3, p4⟩ := hv.plain
  unfold a3_R5
  rw [codeEv_keep, hk, keepL_nil]
  have lg : logOk [] = true := rfl
  cases so
  · exact ⟨_, (by simp only [codeEv, guardEv, opEv, St.opd, look_set, look_cons, St.put, careEv, dOneEv, dOpsEv, accOf, accEv, List.append_nil, Nat.reduceEqDiff, Nat.reduceLT, if_true, if_false, Bool.and_false, Bool.not_true, Bool.false_eq_true, Nat.succ_ne_self, beq_ft, lg]; rfl), (by simp only [keepT, List.map, look_set, look_cons, in_int, in_U, in_bool, Nat.reduceEqDiff, if_true, if_false, p1]), (by simp only [look_set, look_cons, Nat.reduceEqDiff, if_true, if_false])⟩
  · by_cases c : (i : Int) = k
    · have c := eq_true c
      exact ⟨_, (by simp only [codeEv, guardEv, opEv, St.opd, look_set, look_cons, St.put, bin_ine, careEv, dOneEv, dOpsEv, accOf, accEv, List.append_nil, Option.map_some, Nat.reduceEqDiff, Nat.reduceLT, if_true, if_false, Bool.and_false, Bool.not_true, beq_self_eq_true, Bool.false_eq_true, Nat.succ_ne_self, decide_true, beq_ft, lg, c]; rfl), (by simp only [keepT, List.map, look_set, look_cons, in_int, in_U, in_bool, Nat.reduceEqDiff, if_true, if_false, p1]), (by simp only [look_set, look_cons, Nat.reduceEqDiff, if_true, if_false])⟩
    · obtain ⟨kk, w, rfl, hw, hg⟩ := h3 rfl c
      have hi := idx_ok hx
      have hj := idx_ok hw
      rcases hv with ⟨rfl, rfl⟩ | ⟨b, o, cap, e, rfl, hm⟩
      · cases hx
      obtain ⟨c0, own, hc, hc3⟩ := hm i x hx
      obtain ⟨hp, hl0, _⟩ := cells_fld hc3
      obtain ⟨c1, own1, hc', hc3'⟩ := hm kk w hw
      rw [hc] at hc'
      simp only [Option.some.injEq, ABlk.cells.injEq] at hc'
      obtain ⟨rfl, rfl⟩ := hc'
      obtain ⟨hp', hl0', _⟩ := cells_fld hc3'
      unfold gt at hg
      simp only [Bool.or_eq_false_iff, Bool.and_eq_false_iff, decide_eq_false_iff_not] at hg
      obtain ⟨g1, g2⟩ := hg
      by_cases g3 : x.prio = w.prio
      · have g4 : ¬ x.line < w.line := g2.resolve_left (fun h => h g3)
        exact ⟨_, (by simp only [codeEv, guardEv, opEv, St.opd, look_set, look_cons, St.put, St.read, bin_ilt, bin_igt, bin_ieq, bin_ine, careEv, dOneEv, dOpsEv, accOf, accEv, Option.toList_some, List.append_nil, Option.map_some, Nat.reduceEqDiff, Nat.reduceLT, if_true, if_false, Bool.and_true, Bool.and_false, Bool.not_true, Bool.not_false, beq_self_eq_true, Bool.false_eq_true, Nat.succ_ne_self, decide_true, decide_false, lg, c, hi, hj, and_self, Int.toNat_natCast, hc, hp, hl0, hp', hl0', g3, g4, Int.lt_irrefl]; rfl), (by simp only [keepT, List.map, look_set, look_cons, in_int, in_U, in_bool, Nat.reduceEqDiff, if_true, if_false, p1]), (by simp only [look_set, look_cons, Nat.reduceEqDiff, if_true, if_false])⟩
      · exact ⟨_, (by simp only [codeEv, guardEv, opEv, St.opd, look_set, look_cons, St.put, St.read, bin_igt, bin_ieq, bin_ine, careEv, dOneEv, dOpsEv, accOf, accEv, Option.toList_some, List.append_nil, Option.map_some, Nat.reduceEqDiff, Nat.reduceLT, if_true, if_false, Bool.and_true, Bool.and_false, Bool.not_true, Bool.not_false, beq_self_eq_true, Bool.false_eq_true, Nat.succ_ne_self, decide_false, beq_ft, lg, c, hi, hj, and_self, Int.toNat_natCast, hc, hp, hp', g1, g3]; rfl), (by simp only [keepT, List.map, look_set, look_cons, in_int, in_U, in_bool, Nat.reduceEqDiff, if_true, if_false, p1]), (by simp only [look_set, look_cons, Nat.reduceEqDiff, if_true, if_false])⟩

end AG
