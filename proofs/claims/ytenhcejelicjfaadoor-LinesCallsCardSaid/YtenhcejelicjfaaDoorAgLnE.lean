/- What the functions of sets and vectors compute, and the laws of that. -/
import Derived.Test.YtenhcejelicjfaaDoorAgLnD
namespace AG
open Go Go.Proofs.YtenhcejelicjfaaDoor
set_option maxRecDepth 100000
set_option maxHeartbeats 4000000



theorem add_ok (x y : Int) (h1 : -9223372036854775808 ≤ x + y) (h2 : x + y ≤ 9223372036854775807) : binEv .add (.int .i64 x) (.int .i64 y) = some (.int .i64 (x + y)) := by
  simp only [binEv, if_true, intBin, IntKind.wrap, IntKind.bits]
  simp [IntKind.signed]
  omega
theorem mx0 (x : Int) : maxEv (.int .i64 0) [.int .i64 x] = some (.int .i64 (max 0 x)) := max_i 0 x
theorem opt_bI (r : Option (Nat × V)) : (r = none ∧ bI r = -1) ∨ ∃ k w, r = some (k, w) ∧ bI r = (k : Nat) := by
  cases r with
  | none => exact .inl ⟨rfl, rfl⟩
  | some kw => exact .inr ⟨kw.1, kw.2, rfl, rfl⟩

theorem takes_loop (v : AV) (l : List V) (m : Mem) (hv : VS m v l) (P E M : BitVec 32) (lv ac up k : Int) (is : Bool) (hlen : l.length ≤ 1000000)
    (H1 : ∀ (i : Nat) (x : V), l[i]? = some x → soI P E lv ac x = true → is = true) (H2 : ∀ (i : Nat) (x : V), l[i]? = some x → is = true → (i : Int) = k → soI P E lv ac x = true)
    (H3 : ∀ (i : Nat) (x : V), l[i]? = some x → soI P E lv ac x = true → (i : Int) ≠ k → ∃ (kk : Nat) (w : V), k = kk ∧ l[kk]? = some w ∧ gt x w = false) :
    ∀ (r : List V) (i : Nat) (N : Nat) (T : List (Nat × AV)) (L : List (Nat × List AV)) (q : _), l.drop i = r → r.length + 2 ≤ N → codeEv (run A N) (ev A N).2 a3_L1 ⟨213, T, L, m⟩ = q → keepT [0, 1, 2, 3, 4, 5, 6, 15, 16, 17] [] T = [(0, U P), (1, U E), (2, U M), (3, .int .i64 lv), (4, .int .i64 ac), (5, .int .i64 up), (6, v), (15, .int .i64 k), (16, .bool is), (17, .int .i64 (i : Int))] →
      ∃ T' L', q = some (.exit 0, ⟨213, T', L', m⟩) ∧ keepT [0, 1, 2, 3, 4, 5, 6, 15, 16] [] T' = [(0, U P), (1, U E), (2, U M), (3, .int .i64 lv), (4, .int .i64 ac), (5, .int .i64 up), (6, v), (15, .int .i64 k), (16, .bool is)]
  | [], i, N, T, L, q, hd, hN, hq, hk => by
    subst hq
    have hi : ¬ ((i : Int) < (l.length : Int)) := by
      have := List.drop_eq_nil_iff.1 hd
      omega
    rw [a3_L1_step]
    unfold a3_B1
    obtain ⟨p1, p2, p3, p4⟩ := hv.plain
    rcases hv with ⟨rfl, rfl⟩ | ⟨b, o, cap, e, rfl, hm⟩
    · exact ⟨_, _, (by simp only [codeEv, opsEv, oneEv, guardEv, opEv, St.opd, look_set, look_cons, St.put, bin_ilt, keepL, Option.map_some, Nat.reduceEqDiff, Nat.reduceLT, if_true, if_false, Nat.succ_ne_self, hk]; rfl), (by simp only [keepT, List.map, look_set, look_cons, in_int, in_U, in_bool, Nat.reduceEqDiff, if_true, if_false, p1])⟩
    exact ⟨_, _, (by simp only [codeEv, opsEv, oneEv, guardEv, opEv, St.opd, look_set, look_cons, St.put, bin_ilt, keepL, Option.map_some, Nat.reduceEqDiff, Nat.reduceLT, if_true, if_false, Bool.false_eq_true, Nat.succ_ne_self, decide_false, hk, hi]; rfl), (by simp only [keepT, List.map, look_set, look_cons, in_int, in_U, in_bool, in_slice, Nat.reduceEqDiff, if_true, if_false])⟩
  | x :: r, i, N, T, L, q, hd, hN, hq, hk => by
    subst hq
    obtain ⟨hg, hi, hd'⟩ := drop_cons_get hd
    obtain ⟨n, rfl⟩ : ∃ n, N = n + 1 := ⟨N - 1, by simp only [List.length_cons] at hN; omega⟩
    have hi' : (i : Int) < (l.length : Int) := by omega
    have hadd := add_i i (by omega)
    have ih := fun T L q => takes_loop _ l m hv P E M lv ac up k is hlen H1 H2 H3 r (i + 1) n T L q hd' (by simp only [List.length_cons] at hN; omega)
    rw [a3_L1_step]
    unfold a3_B1
    have hv0 := hv
    rcases hv0 with ⟨rfl, rfl⟩ | ⟨b, o, cap, e, rfl, hm⟩
    · cases hg
    simp only [codeEv, opsEv, oneEv, guardEv, opEv, St.opd, look_set, look_cons, St.put, bin_ilt, keepL, Option.map_some, Nat.reduceEqDiff, Nat.reduceLT, if_true, if_false, Nat.succ_ne_self, decide_true, hk, hi']
    generalize hq : codeEv (run A (n + 1)) (ev A (n + 1)).2 a3_R3 _ = q
    obtain ⟨T3, rfl, hk3⟩ := a3_R3_ok _ l m hv P E M lv ac up k is i x hg (n + 1) (by omega) _ _ _ q hq (by simp only [keepT, List.map, look_set, look_cons, in_int, in_U, in_bool, in_slice, Nat.reduceEqDiff, if_true, if_false])
    simp only []
    generalize hq : codeEv (run A (n + 1)) (ev A (n + 1)).2 a3_R4 _ = q
    obtain ⟨T4, rfl, hk4, h98⟩ := a3_R4_ok _ l m hv P E M lv ac up k is i (soI P E lv ac x) (H1 i x hg) (H2 i x hg) (n + 1) _ _ _ q hq hk3
    simp only [Nat.reduceLT, if_true, if_false, Bool.false_eq_true, h98]
    generalize hq : codeEv (run A (n + 1)) (ev A (n + 1)).2 a3_R5 _ = q
    obtain ⟨T5, rfl, hk5, h143⟩ := a3_R5_ok _ l m hv P E M lv ac up k is i x hg (soI P E lv ac x) (H3 i x hg) (n + 1) _ _ _ q hq hk4
    simp only [look_set, look_cons, Option.map_some, Nat.reduceEqDiff, Nat.reduceLT, if_true, if_false, Bool.false_eq_true, h143, hk5, hadd, again_of]
    exact ih _ _ _ rfl (by simp only [keepT, List.map, look_set, look_cons, in_int, in_U, in_bool, in_slice, Nat.reduceEqDiff, if_true, if_false])

theorem a3_R1_ok (v : AV) (l : List V) (m : Mem) (hv : VS m v l) (P E M : BitVec 32) (lv ac up k : Int) (is : Bool) (N : Nat) (hN : 34 ≤ N) (again : AC → St → Option (Ex × St)) (T : List (Nat × AV)) (L : List (Nat × List AV)) (q : _) (hq : codeEv (run A N) again a3_R1 ⟨213, T, L, m⟩ = q) (hk : keepT [0, 1, 2, 3, 4, 5, 6] [] T = [(0, U P), (1, U E), (2, U M), (3, .int .i64 lv), (4, .int .i64 ac), (5, .int .i64 up), (6, v)]) :
    ∃ T', q = some (.norm, ⟨213, T', [], m⟩) ∧ keepT [0, 1, 2, 3, 4, 5, 6] [] T' = [(0, U P), (1, U E), (2, U M), (3, .int .i64 lv), (4, .int .i64 ac), (5, .int .i64 up), (6, v)] ∧ look T' 32 = .bool (decide (40 < l.length) || !decide (checkV l = 0)) := by
  subst hq
  unfold a3_R1
  rw [codeEv_keep, hk, keepL_nil]
  have ck := fun h => check_v N hN m v l hv h
  rcases hv with ⟨rfl, rfl⟩ | ⟨b, o, cap, e, rfl, hm⟩
  · have c0 : checkV [] = 0 := rfl
    exact ⟨_, (by simp only [codeEv, opsEv, oneEv, guardEv, opEv, St.opd, look_set, look_cons, St.put, bin_igt, bin_ine, loc_nils, callWith, List.map, List.any, Option.map_some, Nat.reduceEqDiff, Nat.reduceLT, if_true, if_false, Bool.or_false, Bool.not_true, beq_self_eq_true, Bool.false_eq_true, Nat.succ_ne_self, decide_true, decide_false, ck (by simp), c0, show ¬ ((40 : Int) < 0) by omega]; rfl), (by simp only [keepT, List.map, look_set, look_cons, in_int, in_U, in_nils, Nat.reduceEqDiff, if_true, if_false]), (by simp only [look_set, look_cons, Nat.reduceEqDiff, if_true, if_false, c0, List.length_nil, Nat.not_lt_zero, decide_false, decide_true, Bool.false_or, Bool.not_true])⟩
  by_cases h : 40 < l.length
  · have h' : (40 : Int) < (l.length : Int) := by omega
    exact ⟨_, (by simp only [codeEv, opsEv, oneEv, guardEv, opEv, St.opd, look_set, look_cons, St.put, bin_igt, Option.map_some, Nat.reduceEqDiff, Nat.reduceLT, if_true, if_false, Nat.succ_ne_self, decide_true, beq_tf, h']; rfl), (by simp only [keepT, List.map, look_set, look_cons, in_int, in_U, in_slice, Nat.reduceEqDiff, if_true, if_false]), (by simp only [look_set, look_cons, Nat.reduceEqDiff, if_true, if_false, h, decide_true, Bool.true_or])⟩
  · have h' : ¬ (40 : Int) < (l.length : Int) := by omega
    have ck := ck (by omega)
    by_cases hc : checkV l = 0
    · have hc := eq_true hc
      exact ⟨_, (by simp only [codeEv, opsEv, oneEv, guardEv, opEv, St.opd, look_set, look_cons, St.put, bin_igt, bin_ine, loc_slice, callWith, List.map, List.any, Option.map_some, Nat.reduceEqDiff, Nat.reduceLT, if_true, if_false, Bool.or_false, Bool.not_true, beq_self_eq_true, Bool.false_eq_true, Nat.succ_ne_self, decide_true, decide_false, h', ck, hc]; rfl), (by simp only [keepT, List.map, look_set, look_cons, in_int, in_U, in_slice, Nat.reduceEqDiff, if_true, if_false]), (by simp only [look_set, look_cons, Nat.reduceEqDiff, if_true, if_false, h, hc, decide_false, decide_true, Bool.false_or, Bool.not_true])⟩
    · have hc := eq_false hc
      exact ⟨_, (by simp only [codeEv, opsEv, oneEv, guardEv, opEv, St.opd, look_set, look_cons, St.put, bin_igt, bin_ine, loc_slice, callWith, List.map, List.any, Option.map_some, Nat.reduceEqDiff, Nat.reduceLT, if_true, if_false, Bool.or_false, Bool.not_false, beq_self_eq_true, Bool.false_eq_true, Nat.succ_ne_self, decide_false, h', ck, hc]; rfl), (by simp only [keepT, List.map, look_set, look_cons, in_int, in_U, in_slice, Nat.reduceEqDiff, if_true, if_false]), (by simp only [look_set, look_cons, Nat.reduceEqDiff, if_true, if_false, h, hc, decide_false, Bool.false_or, Bool.not_false])⟩

theorem a3_R2_ok (v : AV) (l : List V) (m : Mem) (hv : VS m v l) (P E M : BitVec 32) (lv ac up k : Int) (is : Bool) (k2 : Int) (is2 : Bool) (hlen : l.length ≤ 1000000) (hmn : m.n + 2 ≤ 2 ^ depth) (N : Nat) (hN : 40 ≤ N) (again : AC → St → Option (Ex × St)) (T : List (Nat × AV)) (L : List (Nat × List AV)) (q : _) (hq : codeEv (run A N) again a3_R2 ⟨213, T, L, m⟩ = q) (hk : keepT [0, 1, 2, 3, 4, 5, 6] [] T = [(0, U P), (1, U E), (2, U M), (3, .int .i64 lv), (4, .int .i64 ac), (5, .int .i64 up), (6, v)]) :
    ∃ T' m', q = some (.norm, ⟨213, T', [], m'⟩) ∧ Ext m m' ∧ m'.n ≤ m.n + 2 ∧ keepT [0, 1, 2, 3, 4, 5, 6, 15, 16] [] T' = [(0, U P), (1, U E), (2, U M), (3, .int .i64 lv), (4, .int .i64 ac), (5, .int .i64 up), (6, v), (15, .int .i64 (max 0 (bI (takeR P E lv ac l)))), (16, .bool (decide (0 ≤ bI (takeR P E lv ac l))))] := by
  subst hq
  unfold a3_R2
  rw [codeEv_keep, hk, keepL_nil]
  obtain ⟨p1, p2, p3, p4⟩ := hv.plain
  obtain ⟨m', tk, x1, x2⟩ := take_spec N hN P E lv ac m (v) l (hv) hlen hmn
  unfold takeAV at tk
  refine ⟨_, m', (by simp only [codeEv, opsEv, oneEv, guardEv, opEv, St.opd, look_set, look_cons, St.put, loc_int, loc_U, callWith, List.map, List.any, List.getElem?_cons_succ, List.getElem?_cons_zero, Option.map_some, Nat.reduceEqDiff, Nat.reduceLT, if_true, if_false, Bool.or_false, Bool.false_eq_true, Nat.succ_ne_self, tk, p2]; rfl), x1, x2, (by simp only [keepT, List.map, look_set, look_cons, in_int, in_U, in_bool, Nat.reduceEqDiff, if_true, if_false, p1])⟩

theorem a3_R6_ok (v : AV) (l : List V) (m : Mem) (hv : VS m v l) (P E M : BitVec 32) (lv ac up k : Int) (is : Bool) (k2 : Int) (is2 : Bool) (hlen : l.length ≤ 1000000) (hmn : m.n + 2 ≤ 2 ^ depth) (N : Nat) (hN : 40 ≤ N) (again : AC → St → Option (Ex × St)) (T : List (Nat × AV)) (L : List (Nat × List AV)) (q : _) (hq : codeEv (run A N) again a3_R6 ⟨213, T, L, m⟩ = q) (hk : keepT [0, 1, 2, 3, 4, 5, 6, 15, 16] [] T = [(0, U P), (1, U E), (2, U M), (3, .int .i64 lv), (4, .int .i64 ac), (5, .int .i64 up), (6, v), (15, .int .i64 k), (16, .bool is)]) :
    ∃ T' m', q = some (.norm, ⟨213, T', [], m'⟩) ∧ Ext m m' ∧ m'.n ≤ m.n + 2 ∧ keepT [0, 1, 3, 4, 5, 6, 15, 16, 19, 20] [] T' = [(0, U P), (1, U E), (3, .int .i64 lv), (4, .int .i64 ac), (5, .int .i64 up), (6, v), (15, .int .i64 k), (16, .bool is), (19, .int .i64 (max 0 (bI (takeR (P ||| M) (E ||| M) lv ac l)))), (20, .bool (decide (0 ≤ bI (takeR (P ||| M) (E ||| M) lv ac l))))] := by
  subst hq
  unfold a3_R6
  rw [codeEv_keep, hk, keepL_nil]
  obtain ⟨p1, p2, p3, p4⟩ := hv.plain
  obtain ⟨m', tk, x1, x2⟩ := take_spec N hN (P ||| M) (E ||| M) lv ac m (v) l (hv) hlen hmn
  unfold takeAV at tk
  refine ⟨_, m', (by simp only [codeEv, opsEv, oneEv, guardEv, opEv, St.opd, look_set, look_cons, St.put, bin_or, loc_int, loc_U, callWith, List.map, List.any, List.getElem?_cons_succ, List.getElem?_cons_zero, Option.map_some, Nat.reduceEqDiff, Nat.reduceLT, if_true, if_false, Bool.or_false, Bool.false_eq_true, Nat.succ_ne_self, tk, p2]; rfl), x1, x2, (by simp only [keepT, List.map, look_set, look_cons, in_int, in_U, in_bool, Nat.reduceEqDiff, if_true, if_false, p1])⟩

theorem a3_R8_ok (v : AV) (l : List V) (m : Mem) (hv : VS m v l) (P E M : BitVec 32) (lv ac up k : Int) (is : Bool) (k2 : Int) (is2 : Bool) (hlen : l.length ≤ 1000000) (hmn : m.n + 2 ≤ 2 ^ depth) (hadd : binEv .add (.int .i64 lv) (.int .i64 up) = some (.int .i64 (lv + up))) (N : Nat) (hN : 40 ≤ N) (again : AC → St → Option (Ex × St)) (T : List (Nat × AV)) (L : List (Nat × List AV)) (q : _) (hq : codeEv (run A N) again a3_R8 ⟨213, T, L, m⟩ = q) (hk : keepT [0, 1, 3, 4, 5, 6, 15, 16] [] T = [(0, U P), (1, U E), (3, .int .i64 lv), (4, .int .i64 ac), (5, .int .i64 up), (6, v), (15, .int .i64 k), (16, .bool is)]) :
    ∃ T' m', q = some (.norm, ⟨213, T', [], m'⟩) ∧ Ext m m' ∧ m'.n ≤ m.n + 2 ∧ keepT [3, 5, 6, 15, 16, 21, 22] [] T' = [(3, .int .i64 lv), (5, .int .i64 up), (6, v), (15, .int .i64 k), (16, .bool is), (21, .int .i64 (max 0 (bI (takeR P E (lv + up) ac l)))), (22, .bool (decide (0 ≤ bI (takeR P E (lv + up) ac l))))] := by
  subst hq
  unfold a3_R8
  rw [codeEv_keep, hk, keepL_nil]
  obtain ⟨p1, p2, p3, p4⟩ := hv.plain
  obtain ⟨m', tk, x1, x2⟩ := take_spec N hN P E (lv + up) ac m (v) l (hv) hlen hmn
  unfold takeAV at tk
  refine ⟨_, m', (by simp only [codeEv, opsEv, oneEv, guardEv, opEv, St.opd, look_set, look_cons, St.put, loc_int, loc_U, callWith, List.map, List.any, List.getElem?_cons_succ, List.getElem?_cons_zero, Option.map_some, Nat.reduceEqDiff, Nat.reduceLT, if_true, if_false, Bool.or_false, Bool.false_eq_true, Nat.succ_ne_self, tk, p2, hadd]; rfl), x1, x2, (by simp only [keepT, List.map, look_set, look_cons, in_int, in_bool, Nat.reduceEqDiff, if_true, if_false, p1])⟩

theorem a3_R7_ok (v : AV) (l : List V) (m : Mem) (hv : VS m v l) (P E M : BitVec 32) (lv ac up k : Int) (is : Bool) (k2 : Int) (is2 : Bool) (h : is = true → is2 = true ∧ ∃ (kk kk2 : Nat) (w w2 : V), k = kk ∧ l[kk]? = some w ∧ k2 = kk2 ∧ l[kk2]? = some w2 ∧ ¬ w2.prio < w.prio) (N : Nat) (again : AC → St → Option (Ex × St)) (T : List (Nat × AV)) (L : List (Nat × List AV)) (q : _) (hq : codeEv (run A N) again a3_R7 ⟨213, T, L, m⟩ = q) (hk : keepT [0, 1, 3, 4, 5, 6, 15, 16, 19, 20] [] T = [(0, U P), (1, U E), (3, .int .i64 lv), (4, .int .i64 ac), (5, .int .i64 up), (6, v), (15, .int .i64 k), (16, .bool is), (19, .int .i64 k2), (20, .bool is2)]) :
    ∃ T', q = some (.norm, ⟨213, T', [], m⟩) ∧ keepT [0, 1, 3, 4, 5, 6, 15, 16] [] T' = [(0, U P), (1, U E), (3, .int .i64 lv), (4, .int .i64 ac), (5, .int .i64 up), (6, v), (15, .int .i64 k), (16, .bool is)] ∧ look T' 174 = .bool false := by
  subst hq
  unfold a3_R7
  rw [codeEv_keep, hk, keepL_nil]
  obtain ⟨p1, p2, p3, p4⟩ := hv.plain
  have lg : logOk [] = true := rfl
  cases is
  · exact ⟨_, (by simp only [codeEv, guardEv, opEv, St.opd, look_set, look_cons, St.put, careEv, dOneEv, dOpsEv, accOf, accEv, List.append_nil, Nat.reduceEqDiff, Nat.reduceLT, if_true, if_false, Bool.and_false, Bool.not_true, Bool.false_eq_true, Nat.succ_ne_self, beq_ft, lg]; rfl), (by simp only [keepT, List.map, look_set, look_cons, in_int, in_U, in_bool, Nat.reduceEqDiff, if_true, if_false, p1]), (by simp only [look_set, look_cons, Nat.reduceEqDiff, if_true, if_false])⟩
  · obtain ⟨rfl, kk, k2, w, w2, rfl, hw, rfl, hw2, hlt⟩ := h rfl
    have hj := idx_ok hw
    have hj2 := idx_ok hw2
    rcases hv with ⟨rfl, rfl⟩ | ⟨b, o, cap, e, rfl, hm⟩
    · cases hw
    obtain ⟨c0, own, hc, hc3⟩ := hm kk w hw
    obtain ⟨hp, hl0, _⟩ := cells_fld hc3
    obtain ⟨c1, own1, hc', hc3'⟩ := hm k2 w2 hw2
    rw [hc] at hc'
    simp only [Option.some.injEq, ABlk.cells.injEq] at hc'
    obtain ⟨rfl, rfl⟩ := hc'
    obtain ⟨hp', hl0', _⟩ := cells_fld hc3'
    exact ⟨_, (by simp only [codeEv, guardEv, opEv, St.opd, look_set, look_cons, St.put, St.read, bin_ilt, unEv, careEv, dOneEv, dOpsEv, accOf, accEv, Option.toList_some, List.append_nil, Option.map_some, Nat.reduceEqDiff, Nat.reduceLT, if_true, if_false, Bool.and_true, Bool.and_false, Bool.not_true, Bool.not_false, beq_self_eq_true, Bool.false_eq_true, Nat.succ_ne_self, decide_false, lg, hj, hj2, and_self, Int.toNat_natCast, hc, hp, hp', hlt]; rfl), (by simp only [keepT, List.map, look_set, look_cons, in_int, in_U, in_bool, in_slice, Nat.reduceEqDiff, if_true, if_false]), (by simp only [look_set, look_cons, Nat.reduceEqDiff, if_true, if_false])⟩

theorem a3_R9_ok (v : AV) (l : List V) (m : Mem) (hv : VS m v l) (P E M : BitVec 32) (lv ac up k : Int) (is : Bool) (k2 : Int) (is2 : Bool) (hadd : binEv .add (.int .i64 lv) (.int .i64 up) = some (.int .i64 (lv + up))) (h : is2 = true → is = true ∧ k2 = k ∧ ∃ (kk2 : Nat) (w2 : V), k2 = kk2 ∧ l[kk2]? = some w2 ∧ lv + up < w2.prio) (N : Nat) (again : AC → St → Option (Ex × St)) (T : List (Nat × AV)) (L : List (Nat × List AV)) (q : _) (hq : codeEv (run A N) again a3_R9 ⟨213, T, L, m⟩ = q) (hk : keepT [3, 5, 6, 15, 16, 21, 22] [] T = [(3, .int .i64 lv), (5, .int .i64 up), (6, v), (15, .int .i64 k), (16, .bool is), (21, .int .i64 k2), (22, .bool is2)]) :
    ∃ T', q = some (.norm, ⟨213, T', [], m⟩) ∧ look T' 14 = .bool true := by
  subst hq
  unfold a3_R9
  rw [codeEv_keep, hk, keepL_nil]
  obtain ⟨p1, p2, p3, p4⟩ := hv.plain
  cases is2
  · exact ⟨_, (by simp only [codeEv, opsEv, oneEv, guardEv, opEv, St.opd, look_set, look_cons, St.put, unEv, Option.map_some, Nat.reduceEqDiff, Nat.reduceLT, if_true, if_false, Bool.not_false, Nat.succ_ne_self, beq_tf]; rfl), (by simp only [look_set, look_cons, Nat.reduceEqDiff, if_true, if_false])⟩
  · obtain ⟨rfl, rfl, k2, w2, rfl, hw2, hlt⟩ := h rfl
    have hj2 := idx_ok hw2
    rcases hv with ⟨rfl, rfl⟩ | ⟨b, o, cap, e, rfl, hm⟩
    · cases hw2
    obtain ⟨c1, own1, hc, hc3'⟩ := hm k2 w2 hw2
    obtain ⟨hp', hl0', _⟩ := cells_fld hc3'
    exact ⟨_, (by simp only [codeEv, opsEv, oneEv, guardEv, opEv, St.opd, look_set, look_cons, St.put, St.read, bin_igt, bin_ieq, unEv, Option.map_some, Nat.reduceEqDiff, Nat.reduceLT, if_true, if_false, Bool.not_true, beq_self_eq_true, Bool.false_eq_true, Nat.succ_ne_self, decide_true, hj2, and_self, Int.toNat_natCast, hc, hp', hadd, hlt]; rfl), (by simp only [look_set, look_cons, Nat.reduceEqDiff, if_true, if_false])⟩

end AG
