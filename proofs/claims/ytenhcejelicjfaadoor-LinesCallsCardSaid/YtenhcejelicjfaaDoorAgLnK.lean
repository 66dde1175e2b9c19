/- What the functions of sets and vectors compute, and the laws of that. -/
import Derived.Test.YtenhcejelicjfaaDoorAgLnJ
namespace AG
open Go Go.Proofs.YtenhcejelicjfaaDoor
set_option maxRecDepth 100000
set_option maxHeartbeats 4000000



theorem RS.lenR {α : Type} {f : α → List AV} {c : Nat} {m : Mem} {v : AV} {l : List α} (hv : RS f c m v l) (s : St) : AG.lenR v s = some (.int .i64 l.length, s) := by
  rcases hv with ⟨rfl, rfl⟩ | ⟨b, o, cap, e, rfl, _⟩ <;> rfl
theorem a4_R3_ok (m : Mem) (v1 : AV) (l : List Int) (hv : IS m v1 l) (e : Int) (s : BitVec 32) (bad : Bool) (i : Nat) (y : Int) (hy : l[i]? = some y) (N : Nat) (again : AC → St → Option (Ex × St)) (T : List (Nat × AV)) (L : List (Nat × List AV)) (q : _)
    (hq : codeEv (run A N) again a4_R3 ⟨115, T, L, m⟩ = q) (hk : keepT [1, 7, 9, 10, 11] [] T = [(1, v1), (7, .int .i64 e), (9, U s), (10, .bool bad), (11, .int .i64 (i : Int))]) :
    ∃ T', q = some (.norm, ⟨115, T', [], m⟩) ∧ keepT [1, 7, 9, 10, 11] [] T' = [(1, v1), (7, .int .i64 e), (9, U s), (10, .bool (bad || outI y)), (11, .int .i64 (i : Int))] := by
  subst hq
  have hi := idx_any hy
  rcases hv with ⟨rfl, rfl⟩ | ⟨b, o, cap, ee, rfl, hm⟩
  · cases hy
  obtain ⟨c, own, g1, g2, _⟩ := get_flat hm hy hy
  unfold a4_R3 outI
  rw [codeEv_keep, hk, keepL_nil]
  cases bad
  · by_cases c1 : y < 0
    · exact ⟨_, (by simp only [codeEv, opsEv, oneEv, guardEv, opEv, St.opd, look_set, look_cons, St.put, St.read, bin_ilt, Option.map_some, Nat.reduceEqDiff, Nat.reduceLT, if_true, if_false, beq_self_eq_true, Bool.false_eq_true, Nat.succ_ne_self, decide_true, beq_tf, hi, and_self, Int.toNat_natCast, Nat.mul_one, g1, g2, c1]; rfl), (by simp only [keepT, List.map, look_set, look_cons, in_int, in_U, in_bool, in_slice, Nat.reduceEqDiff, if_true, if_false, c1, decide_true, Bool.true_or, Bool.or_true])⟩
    · by_cases c2 : 31 < y
      · exact ⟨_, (by simp only [codeEv, opsEv, oneEv, guardEv, opEv, St.opd, look_set, look_cons, St.put, St.read, bin_ilt, bin_igt, Option.map_some, Nat.reduceEqDiff, Nat.reduceLT, if_true, if_false, beq_self_eq_true, Bool.false_eq_true, Nat.succ_ne_self, decide_true, decide_false, hi, and_self, Int.toNat_natCast, Nat.mul_one, g1, g2, c1, c2]; rfl), (by simp only [keepT, List.map, look_set, look_cons, in_int, in_U, in_bool, in_slice, Nat.reduceEqDiff, if_true, if_false, c1, c2, decide_true, decide_false, Bool.or_true])⟩
      · exact ⟨_, (by simp only [codeEv, opsEv, oneEv, guardEv, opEv, St.opd, look_set, look_cons, St.put, St.read, bin_ilt, bin_igt, Option.map_some, Nat.reduceEqDiff, Nat.reduceLT, if_true, if_false, beq_self_eq_true, Bool.false_eq_true, Nat.succ_ne_self, decide_false, hi, and_self, Int.toNat_natCast, Nat.mul_one, g1, g2, c1, c2]; rfl), (by simp only [keepT, List.map, look_set, look_cons, in_int, in_U, in_bool, in_slice, Nat.reduceEqDiff, if_true, if_false, c1, c2, decide_false, Bool.or_false])⟩
  · exact ⟨_, (by simp only [codeEv, opsEv, oneEv, guardEv, opEv, St.opd, look_set, look_cons, St.put, Nat.reduceEqDiff, Nat.reduceLT, if_true, if_false, Nat.succ_ne_self, beq_tf]; rfl), (by simp only [keepT, List.map, look_set, look_cons, in_int, in_U, in_bool, in_slice, Nat.reduceEqDiff, if_true, if_false, Bool.true_or])⟩

theorem a4_R4_ok (m : Mem) (v1 : AV) (l : List Int) (hv : IS m v1 l) (e : Int) (s : BitVec 32) (bad : Bool) (i : Nat) (y : Int) (hy : l[i]? = some y) (hh : e = 0 → hasI s y = true) (N : Nat) (hN : 1 ≤ N) (again : AC → St → Option (Ex × St)) (T : List (Nat × AV)) (L : List (Nat × List AV)) (q : _)
    (hq : codeEv (run A N) again a4_R4 ⟨115, T, L, m⟩ = q) (hk : keepT [1, 7, 9, 10, 11] [] T = [(1, v1), (7, .int .i64 e), (9, U s), (10, .bool bad), (11, .int .i64 (i : Int))]) :
    ∃ T', q = some (.norm, ⟨115, T', [], m⟩) ∧ keepT [1, 7, 9, 10, 11] [] T' = [(1, v1), (7, .int .i64 e), (9, U s), (10, .bool bad), (11, .int .i64 (i : Int))] ∧ look T' 103 = .bool false := by
  subst hq
  have hi := idx_any hy
  have hs := has_spec N hN s y m
  rcases hv with ⟨rfl, rfl⟩ | ⟨b, o, cap, ee, rfl, hm⟩
  · cases hy
  obtain ⟨c, own, g1, g2, _⟩ := get_flat hm hy hy
  unfold a4_R4
  rw [codeEv_keep, hk, keepL_nil]
  by_cases c1 : e = 0
  · rw [hh c1] at hs
    have c1 := eq_true c1
    exact ⟨_, (by simp only [codeEv, opsEv, oneEv, guardEv, opEv, St.opd, look_set, look_cons, St.put, St.read, bin_ieq, loc_int, loc_U, unEv, callWith, List.map, List.any, Option.map_some, Nat.reduceEqDiff, Nat.reduceLT, if_true, if_false, Bool.or_false, Bool.not_true, beq_self_eq_true, Bool.false_eq_true, Nat.succ_ne_self, decide_true, hi, and_self, Int.toNat_natCast, Nat.mul_one, g1, g2, c1, hs]; rfl), (by simp only [keepT, List.map, look_set, look_cons, in_int, in_U, in_bool, in_slice, Nat.reduceEqDiff, if_true, if_false]), (by simp only [look_set, look_cons, Nat.reduceEqDiff, if_true, if_false])⟩
  · exact ⟨_, (by simp only [codeEv, opsEv, oneEv, guardEv, opEv, St.opd, look_set, look_cons, St.put, bin_ieq, Option.map_some, Nat.reduceEqDiff, Nat.reduceLT, if_true, if_false, Bool.false_eq_true, Nat.succ_ne_self, decide_false, beq_ft, c1]; rfl), (by simp only [keepT, List.map, look_set, look_cons, in_int, in_U, in_bool, in_slice, Nat.reduceEqDiff, if_true, if_false]), (by simp only [look_set, look_cons, Nat.reduceEqDiff, if_true, if_false])⟩

theorem sets_loop1 (m : Mem) (v1 : AV) (l : List Int) (hv : IS m v1 l) (hlen : l.length ≤ 1000000) (e : Int) (s : BitVec 32) (hh : e = 0 → ∀ y ∈ l, hasI s y = true) :
    ∀ (r : List Int) (i : Nat) (bad : Bool) (N : Nat) (T : List (Nat × AV)) (L : List (Nat × List AV)) (q : _), l.drop i = r → r.length + 2 ≤ N → codeEv (run A N) (ev A N).2 a4_L1 ⟨115, T, L, m⟩ = q → keepT [1, 7, 9, 10, 11] [] T = [(1, v1), (7, .int .i64 e), (9, U s), (10, .bool bad), (11, .int .i64 (i : Int))] →
      ∃ T' L', q = some (.exit 2, ⟨115, T', L', m⟩) ∧ keepT [1, 7, 9, 10] [] T' = [(1, v1), (7, .int .i64 e), (9, U s), (10, .bool (bad || r.any outI))]
  | [], i, bad, N, T, L, q, hd, hN, hq, hk => by
    subst hq
    have hi : ¬ ((i : Int) < (l.length : Int)) := by
      have := List.drop_eq_nil_iff.1 hd
      omega
    rw [a4_L1_step]
    unfold a4_B1
    rcases hv with ⟨rfl, h0⟩ | ⟨b, o, cap, ee, rfl, hm⟩
    · have hi0 : ¬ ((i : Int) < 0) := by omega
      exact ⟨_, _, (by simp only [codeEv, opsEv, oneEv, guardEv, opEv, St.opd, look_set, look_cons, St.put, bin_ilt, keepL, Option.map_some, Nat.reduceEqDiff, Nat.reduceLT, if_true, if_false, Bool.false_eq_true, Nat.succ_ne_self, decide_false, hk, hi0]; rfl), (by simp only [keepT, List.map, look_set, look_cons, in_int, in_U, in_bool, in_nils, Nat.reduceEqDiff, if_true, if_false, List.any_nil, Bool.or_false])⟩
    · exact ⟨_, _, (by simp only [codeEv, opsEv, oneEv, guardEv, opEv, St.opd, look_set, look_cons, St.put, bin_ilt, keepL, Option.map_some, Nat.reduceEqDiff, Nat.reduceLT, if_true, if_false, Bool.false_eq_true, Nat.succ_ne_self, decide_false, hk, hi]; rfl), (by simp only [keepT, List.map, look_set, look_cons, in_int, in_U, in_bool, in_slice, Nat.reduceEqDiff, if_true, if_false, List.any_nil, Bool.or_false])⟩
  | y :: r, i, bad, N, T, L, q, hd, hN, hq, hk => by
    subst hq
    obtain ⟨hg, hi, hd'⟩ := drop_cons_get hd
    obtain ⟨n, rfl⟩ : ∃ n, N = n + 1 := ⟨N - 1, by simp only [List.length_cons] at hN; omega⟩
    have hi' := idx_any hg
    have hadd := add_i i (by omega)
    rw [a4_L1_step]
    unfold a4_B1
    have hv0 := hv
    rcases hv0 with ⟨rfl, h0⟩ | ⟨b, o, cap, ee, rfl, hm⟩
    · rw [h0] at hg; cases hg
    simp only [codeEv, opsEv, oneEv, guardEv, opEv, St.opd, look_set, look_cons, St.put, bin_ilt, keepL, List.any, Option.map_some, Nat.reduceEqDiff, Nat.reduceLT, if_true, if_false, Nat.succ_ne_self, decide_true, hk, hi'.2]
    generalize hq : codeEv (run A (n + 1)) (ev A (n + 1)).2 a4_R3 _ = q
    obtain ⟨T2, rfl, hk2⟩ := a4_R3_ok m _ l hv e s bad i y hg (n + 1) _ _ _ q hq (by simp only [keepT, List.map, look_set, look_cons, in_int, in_U, in_bool, in_slice, Nat.reduceEqDiff, if_true, if_false])
    simp only []
    generalize hq : codeEv (run A (n + 1)) (ev A (n + 1)).2 a4_R4 _ = q
    obtain ⟨T3, rfl, hk3, h103⟩ := a4_R4_ok m _ l hv e s (bad || outI y) i y hg (fun h => hh h y (List.mem_of_getElem? hg)) (n + 1) (by omega) _ _ _ q hq hk2
    simp only [look_set, look_cons, Option.map_some, Nat.reduceEqDiff, Nat.reduceLT, if_true, if_false, Bool.false_eq_true, h103, hk3, hadd, again_of, ← Bool.or_assoc]
    exact sets_loop1 m _ l hv hlen e s hh r (i + 1) (bad || outI y) n _ _ _ hd' (by simp only [List.length_cons] at hN; omega) rfl (by simp only [keepT, List.map, look_set, look_cons, in_int, in_U, in_bool, in_slice, Nat.reduceEqDiff, if_true, if_false])

theorem a4_R1_ok (m : Mem) (set : BitVec 32) (v1 v5 : AV) (h1 : ∀ ls, AV.locIn ls v1 = true) (hv : IS m v5 (ints (bitsOf set))) (N : Nat) (hN : 2 ≤ N) (again : AC → St → Option (Ex × St)) (T : List (Nat × AV)) (L : List (Nat × List AV)) (q : _)
    (hq : codeEv (run A N) again a4_R1 ⟨115, T, L, m⟩ = q) (hk : keepT [0, 1, 5, 6, 7] [] T = [(0, U set), (1, v1), (5, v5), (6, U set), (7, .int .i64 0)]) :
    ∃ T', q = some (.norm, ⟨115, T', [], m⟩) ∧ keepT [0, 1, 5] [] T' = [(0, U set), (1, v1), (5, v5)] ∧ look T' 37 = .bool false := by
  subst hq
  have hc := count_spec N hN set m
  have hlen : (ints (bitsOf set)).length = (bitsOf set).length := by unfold ints; rw [List.length_map]
  unfold a4_R1
  rw [codeEv_keep, hk, keepL_nil]
  rcases hv with ⟨rfl, h0⟩ | ⟨b, o, cap, ee, rfl, hm⟩
  · have h0 : (bitsOf set).length = 0 := by rw [← hlen, h0]; rfl
    rw [h0] at hc
    exact ⟨_, (by simp only [codeEv, opsEv, oneEv, guardEv, opEv, St.opd, look_set, look_cons, St.put, bin_une, bin_ine, loc_U, callWith, List.map, List.any, Option.map_some, Nat.reduceEqDiff, Nat.reduceLT, if_true, if_false, Bool.or_false, Bool.not_true, beq_self_eq_true, Bool.false_eq_true, Nat.succ_ne_self, decide_true, hc, Int.ofNat_zero]; rfl), (by simp only [keepT, List.map, look_set, look_cons, in_U, in_nils, Nat.reduceEqDiff, if_true, if_false, h1]), (by simp only [look_set, look_cons, Nat.reduceEqDiff, if_true, if_false])⟩
  · rw [← hlen] at hc
    exact ⟨_, (by simp only [codeEv, opsEv, oneEv, guardEv, opEv, St.opd, look_set, look_cons, St.put, bin_une, bin_ine, loc_U, callWith, List.map, List.any, Option.map_some, Nat.reduceEqDiff, Nat.reduceLT, if_true, if_false, Bool.or_false, Bool.not_true, beq_self_eq_true, Bool.false_eq_true, Nat.succ_ne_self, decide_true, hc]; rfl), (by simp only [keepT, List.map, look_set, look_cons, in_U, in_slice, Nat.reduceEqDiff, if_true, if_false, h1]), (by simp only [look_set, look_cons, Nat.reduceEqDiff, if_true, if_false])⟩

theorem a4_R5_ok (m : Mem) (v1 : AV) (l : List Int) (hv : IS m v1 l) (e : Int) (s : BitVec 32) (bad : Bool) (hb : (!decide (e = 0)) = bad) (hc : (bitsOf s).length ≤ l.length) (N : Nat) (hN : 2 ≤ N) (again : AC → St → Option (Ex × St)) (T : List (Nat × AV)) (L : List (Nat × List AV)) (q : _)
    (hq : codeEv (run A N) again a4_R5 ⟨115, T, L, m⟩ = q) (hk : keepT [1, 7, 9, 10] [] T = [(1, v1), (7, .int .i64 e), (9, U s), (10, .bool bad)]) :
    ∃ T', q = some (.norm, ⟨115, T', [], m⟩) ∧ look T' 4 = .bool true := by
  subst hq
  subst hb
  have hs := count_spec N hN s m
  unfold a4_R5
  rw [codeEv_keep, hk, keepL_nil]
  have hl1 : ((bitsOf s).length : Int) ≤ (l.length : Int) := by omega
  rcases hv with ⟨rfl, rfl⟩ | ⟨b, o, cap, ee, rfl, hm⟩
  · have hl1 : ((bitsOf s).length : Int) ≤ 0 := by simpa using hl1
    by_cases c : e = 0
    · have c := eq_true c
      exact ⟨_, (by simp only [codeEv, opsEv, oneEv, guardEv, opEv, St.opd, look_set, look_cons, St.put, bin_ile, bin_ine, loc_U, callWith, List.map, List.any, Option.map_some, Nat.reduceEqDiff, Nat.reduceLT, if_true, if_false, Bool.or_false, Bool.not_true, beq_self_eq_true, Bool.false_eq_true, Nat.succ_ne_self, decide_true, hs, hl1, c, eqEv]; rfl), (by simp only [look_set, look_cons, Nat.reduceEqDiff, if_true, if_false])⟩
    · exact ⟨_, (by simp only [codeEv, opsEv, oneEv, guardEv, opEv, St.opd, look_set, look_cons, St.put, bin_ile, bin_ine, loc_U, callWith, List.map, List.any, Option.map_some, Nat.reduceEqDiff, Nat.reduceLT, if_true, if_false, Bool.or_false, Bool.not_false, beq_self_eq_true, Bool.false_eq_true, Nat.succ_ne_self, decide_true, decide_false, hs, hl1, c, eqEv]; rfl), (by simp only [look_set, look_cons, Nat.reduceEqDiff, if_true, if_false])⟩
  · by_cases c : e = 0
    · have c := eq_true c
      exact ⟨_, (by simp only [codeEv, opsEv, oneEv, guardEv, opEv, St.opd, look_set, look_cons, St.put, bin_ile, bin_ine, loc_U, callWith, List.map, List.any, Option.map_some, Nat.reduceEqDiff, Nat.reduceLT, if_true, if_false, Bool.or_false, Bool.not_true, beq_self_eq_true, Bool.false_eq_true, Nat.succ_ne_self, decide_true, hs, hl1, c, eqEv]; rfl), (by simp only [look_set, look_cons, Nat.reduceEqDiff, if_true, if_false])⟩
    · exact ⟨_, (by simp only [codeEv, opsEv, oneEv, guardEv, opEv, St.opd, look_set, look_cons, St.put, bin_ile, bin_ine, loc_U, callWith, List.map, List.any, Option.map_some, Nat.reduceEqDiff, Nat.reduceLT, if_true, if_false, Bool.or_false, Bool.not_false, beq_self_eq_true, Bool.false_eq_true, Nat.succ_ne_self, decide_true, decide_false, hs, hl1, c, eqEv]; rfl), (by simp only [look_set, look_cons, Nat.reduceEqDiff, if_true, if_false])⟩

theorem sets_run (n : Nat) (hn : 60 ≤ n) (set : BitVec 32) (m0 m : Mem) (hl0 : run A n 11 [] m0 = some (.bool true, m)) (v : AV) (l : List Int) (hv : IS m v l) (hm0 : m.get 0 = some (.cells tab32 false)) (hmn : m.n + 64 ≤ 2 ^ depth) :
    ∃ m', run A (n + 1) 4 [U set, v] m0 = some (.bool true, m') := by
  rw [run_4]
  unfold fnEv a4
  obtain ⟨p1, p2, p3, p4⟩ := hv.plain
  have hlen := hv.lenR
  by_cases hc40 : 40 < l.length
  · have h' : (40 : Int) < (l.length : Int) := by omega
    exact ⟨m, by simp only [codeEv, opsEv, oneEv, guardEv, opE_mov, opE_bin, opE_un, opE_call, opE_lenL, St.opd, look_set, look_cons, St.put, argsT, resEv, bin_igt, in_U, loc_bool, unEv, callWith, keepL, List.map, List.length, List.any, Option.map_some, Nat.reduceEqDiff, Nat.reduceAdd, Nat.reduceLT, if_true, if_false, Bool.not_true, Bool.false_eq_true, Nat.succ_ne_self, decide_true, keepT_setT, keepT_lit, hl0, p1, hlen, h']⟩
  have h' : ¬ (40 : Int) < (l.length : Int) := by omega
  obtain ⟨v5, m1, ls, x1, n1, hv5⟩ := list_spec n (by omega) set m hm0 hmn
  obtain ⟨q1, q2, q3, q4⟩ := hv5.plain
  have hl5 : (ints (bitsOf set)).length ≤ 32 := by unfold ints; rw [List.length_map]; exact bits_len set
  have of1 := of_spec n m1 v5 _ hv5 (by omega) (by omega)
  rw [ofL_bits] at of1
  have hv1 := hv.ext x1
  have of2 := of_spec n m1 v l hv1 (by omega) (by omega)
  simp only [codeEv, opsEv, oneEv, guardEv, opE_mov, opE_bin, opE_un, opE_ext, opE_call, opE_lenL, St.opd, look_set, look_cons, St.put, argsT, resEv, bin_igt, in_U, loc_U, unEv, callWith, keepL, List.map, List.length, List.any, List.getElem?_cons_succ, List.getElem?_cons_zero, Option.map_some, Nat.reduceEqDiff, Nat.reduceAdd, Nat.reduceLT, if_true, if_false, Bool.or_false, Bool.not_true, Bool.false_eq_true, Nat.succ_ne_self, decide_false, keepT_setT, keepT_lit, hl0, p1, hlen, h', ls, q1, q2, of1]
  generalize hq : codeEv (run A n) (ev A n).2 a4_R1 _ = q
  obtain ⟨T1, rfl, hk1, h37⟩ := a4_R1_ok m1 set v v5 p1 hv5 n (by omega) _ _ _ q hq (by simp only [keepT, List.map, look_set, look_cons, in_int, in_U, Nat.reduceEqDiff, if_true, if_false, p1, q1])
  simp only [Nat.reduceLT, if_true, if_false, Bool.false_eq_true, h37, hk1]
  generalize hq : codeEv (run A n) (ev A n).2 a4_L2 _ = q
  obtain ⟨T2, L2, rfl, hk2⟩ := sets_loop2 m1 set v v5 p1 hv5 (ints (bitsOf set)) 0 n _ _ q rfl (by omega) hq (by simp only [keepT, List.map, look_set, look_cons, in_int, in_U, Nat.reduceEqDiff, if_true, if_false, p1, q1, Int.ofNat_zero])
  simp only [look_set, look_cons, in_int, in_U, in_bool, List.map, List.getElem?_cons_succ, List.getElem?_cons_zero, Option.map_some, Nat.reduceEqDiff, Nat.reduceLT, if_true, if_false, Bool.false_eq_true, Nat.succ_ne_self, keepT_setT, hk2, p1, p2, of2]
  generalize hq : codeEv (run A n) (ev A n).2 a4_L1 _ = q
  have hbad : l.any outI = true → ofL 0#32 l = (0#32, 2) := ofL_bad l 0#32
  have hgood := ofL_ok l 0#32
  have hbits := ofL_len l 0#32
  rw [bits_nil.2 rfl, List.length_nil, Nat.zero_add] at hbits
  have hh : (ofL 0#32 l).2 = 0 → ∀ y ∈ l, hasI (ofL 0#32 l).1 y = true := by
    intro he y hy
    have hb : l.any outI = false := by
      cases hb : l.any outI
      · rfl
      · rw [hbad hb] at he; cases he
    rw [(hgood hb).2, List.contains_iff_mem.2 hy, Bool.or_true]
  have hbe : (!decide ((ofL 0#32 l).2 = 0)) = l.any outI := by
    cases hb : l.any outI
    · rw [(hgood hb).1]; rfl
    · rw [hbad hb]; rfl
  obtain ⟨T3, L3, rfl, hk3⟩ := sets_loop1 m1 v l hv1 (by omega) (ofL 0#32 l).2 (ofL 0#32 l).1 hh l 0 false n _ _ q rfl (by omega) hq (by simp only [keepT, List.map, look_set, look_cons, in_int, in_U, in_bool, Nat.reduceEqDiff, if_true, if_false, p1, Int.ofNat_zero])
  simp only [if_true]
  rw [Bool.false_or] at hk3
  generalize hq : codeEv (run A n) (ev A n).2 a4_R5 _ = q
  obtain ⟨T4, rfl, h4⟩ := a4_R5_ok m1 v l hv1 (ofL 0#32 l).2 (ofL 0#32 l).1 _ hbe hbits n (by omega) _ _ _ q hq hk3
  exact ⟨m1, by simp only [loc_bool, if_false, Bool.false_eq_true, h4]⟩

end AG
