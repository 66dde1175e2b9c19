/- What the functions of instructions and their texts compute, and the laws of that. -/
import Derived.Test.YtekljfhfjncmjaaDoorAgCg3
namespace AG
open Go Go.Proofs.YtekljfhfjncmjaaDoor
set_option maxRecDepth 100000
set_option maxHeartbeats 4000000



theorem str_ne' (x y : ByteArray) : binEv .neq (.str x) (.str y) = some (.bool (!(x.toList == y.toList))) := rfl
theorem fits_neg (w : Int) : fitsI w (-1) = false := by
  unfold fitsI
  repeat' split
  all_goals decide
theorem ok_neg1 (op b c : Int) : codeOk op (-1) b c = false := by simp [codeOk, fits_neg]
theorem ok_neg2 (op a c : Int) : codeOk op a (-1) c = false := by simp [codeOk, fits_neg]
theorem ok_neg3 (op a b : Int) : codeOk op a b (-1) = false := by simp [codeOk, fits_neg]

theorem n4_0 (N : Nat) (hN : 14 ≤ N) (again : AC → St → Option (Ex × St)) (w op a b c : Int) (m : Mem) (hT : Tab m) (T : List (Nat × AV)) (L : List (Nat × List AV)) (hL : lookL L 1 = some [.int .i64 op, .int .i64 a, .int .i64 b, .int .i64 c]) (hk : keepT [1, 4, 6, 7] [1] T = [(1, .loc 1 0), (4, .int .i64 w), (6, .int .i64 0), (7, .int .i64 0)]) :
    ∃ T' L', codeEv (run A N) again a4_B1 ⟨121, T, L, m⟩ = some (.norm, ⟨121, T', L', m⟩) ∧ lookL L' 1 = some [.int .i64 op, .int .i64 a, .int .i64 b, .int .i64 c] ∧ keepT [1, 4, 6, 7] [1] T' = [(1, .loc 1 0), (4, .int .i64 w), (6, .int .i64 0), (7, .int .i64 1)] := by
  have hc := code_call N (by omega) op (-1) b c m hT
  rw [ok_neg1 op b c] at hc
  simp only [Bool.false_eq_true, if_false] at hc
  have ht := text_bad N (by omega) op (-1) b c m hT (ok_neg1 op b c)
  unfold insA at ht
  unfold a4_B1 a4_R1
  exact ⟨_, _, by simp only [codeEv, opsEv, oneEv, guardEv, opE_mov, opE_pick, opE_alloc, opE_loadk, opE_store, opE_bin, opE_faddr, opE_call, St.opd, look_set, look_nil, look_cons, St.put, St.new, St.read, St.write, lookL_nil, lookL_cons, setL_nil, setL_cons, cellsAt_cons, splice, bin_ilt, bin_ieq, bin_ine, in_int, in_loc, List.contains_cons, List.contains_nil, one_int, cells_int, loc_agg, cells_agg, callWith, keepL, List.append_nil, List.map, List.length, List.take, List.drop, List.all, List.any, List.cons_append, List.nil_append, List.take_succ_cons, List.drop_succ_cons, Option.map_some, Nat.reduceEqDiff, Int.reduceEq, Int.reduceLT, Nat.reduceAdd, Nat.reduceLeDiff, Nat.reduceLT, if_true, if_false, Bool.and_true, Bool.or_true, Bool.or_false, Bool.true_or, Bool.not_true, Bool.not_false, List.isEmpty_cons, beq_self_eq_true, Bool.false_eq_true, Nat.succ_ne_self, decide_true, decide_false, keepT_setT, List.take_succ_cons, hk, hL, hc, ht, str_ne']; rfl, by simp only [lookL_cons, if_true], by simp only [keepT, List.map, look_set, look_cons, in_int, in_loc, Nat.reduceEqDiff, if_true, if_false, wr1, List.contains_cons, List.contains_nil, beq_self_eq_true, Bool.or_false]⟩

theorem n4_1 (N : Nat) (hN : 14 ≤ N) (again : AC → St → Option (Ex × St)) (w op a b c : Int) (m : Mem) (hT : Tab m) (T : List (Nat × AV)) (L : List (Nat × List AV)) (hL : lookL L 1 = some [.int .i64 op, .int .i64 a, .int .i64 b, .int .i64 c]) (hk : keepT [1, 4, 6, 7] [1] T = [(1, .loc 1 0), (4, .int .i64 w), (6, .int .i64 0), (7, .int .i64 1)]) :
    ∃ T' L', codeEv (run A N) again a4_B1 ⟨121, T, L, m⟩ = some (.norm, ⟨121, T', L', m⟩) ∧ lookL L' 1 = some [.int .i64 op, .int .i64 a, .int .i64 b, .int .i64 c] ∧ keepT [1, 4, 6, 7] [1] T' = [(1, .loc 1 0), (4, .int .i64 w), (6, .int .i64 0), (7, .int .i64 2)] := by
  have hc := code_call N (by omega) op a (-1) c m hT
  rw [ok_neg2 op a c] at hc
  simp only [Bool.false_eq_true, if_false] at hc
  have ht := text_bad N (by omega) op a (-1) c m hT (ok_neg2 op a c)
  unfold insA at ht
  unfold a4_B1 a4_R1
  exact ⟨_, _, by simp only [codeEv, opsEv, oneEv, guardEv, opE_mov, opE_pick, opE_alloc, opE_loadk, opE_store, opE_bin, opE_faddr, opE_call, St.opd, look_set, look_nil, look_cons, St.put, St.new, St.read, St.write, lookL_nil, lookL_cons, setL_nil, setL_cons, cellsAt_cons, splice, bin_ilt, bin_ieq, bin_ine, in_int, in_loc, List.contains_cons, List.contains_nil, one_int, cells_int, loc_agg, cells_agg, callWith, keepL, List.append_nil, List.map, List.length, List.take, List.drop, List.all, List.any, List.cons_append, List.nil_append, List.take_succ_cons, List.drop_succ_cons, Option.map_some, Nat.reduceEqDiff, Int.reduceEq, Int.reduceLT, Nat.reduceAdd, Nat.reduceLeDiff, Nat.reduceLT, if_true, if_false, Bool.and_true, Bool.or_true, Bool.or_false, Bool.true_or, Bool.not_true, Bool.not_false, List.isEmpty_cons, beq_self_eq_true, Bool.false_eq_true, Nat.succ_ne_self, decide_true, decide_false, keepT_setT, List.take_succ_cons, hk, hL, hc, ht, str_ne']; rfl, by simp only [lookL_cons, if_true], by simp only [keepT, List.map, look_set, look_cons, in_int, in_loc, Nat.reduceEqDiff, if_true, if_false, wr2, List.contains_cons, List.contains_nil, beq_self_eq_true, Bool.or_false]⟩

theorem n4_2 (N : Nat) (hN : 14 ≤ N) (again : AC → St → Option (Ex × St)) (w op a b c : Int) (m : Mem) (hT : Tab m) (T : List (Nat × AV)) (L : List (Nat × List AV)) (hL : lookL L 1 = some [.int .i64 op, .int .i64 a, .int .i64 b, .int .i64 c]) (hk : keepT [1, 4, 6, 7] [1] T = [(1, .loc 1 0), (4, .int .i64 w), (6, .int .i64 0), (7, .int .i64 2)]) :
    ∃ T' L', codeEv (run A N) again a4_B1 ⟨121, T, L, m⟩ = some (.norm, ⟨121, T', L', m⟩) ∧ lookL L' 1 = some [.int .i64 op, .int .i64 a, .int .i64 b, .int .i64 c] ∧ keepT [1, 4, 6, 7] [1] T' = [(1, .loc 1 0), (4, .int .i64 w), (6, .int .i64 0), (7, .int .i64 3)] := by
  have hc := code_call N (by omega) op a b (-1) m hT
  rw [ok_neg3 op a b] at hc
  simp only [Bool.false_eq_true, if_false] at hc
  have ht := text_bad N (by omega) op a b (-1) m hT (ok_neg3 op a b)
  unfold insA at ht
  unfold a4_B1 a4_R1
  exact ⟨_, _, by simp only [codeEv, opsEv, oneEv, guardEv, opE_mov, opE_pick, opE_alloc, opE_loadk, opE_store, opE_bin, opE_faddr, opE_call, St.opd, look_set, look_nil, look_cons, St.put, St.new, St.read, St.write, lookL_nil, lookL_cons, setL_nil, setL_cons, cellsAt_cons, splice, bin_ilt, bin_ieq, bin_ine, in_int, in_loc, List.contains_cons, List.contains_nil, one_int, cells_int, loc_agg, cells_agg, callWith, keepL, List.append_nil, List.map, List.length, List.take, List.drop, List.all, List.any, List.cons_append, List.nil_append, List.take_succ_cons, List.drop_succ_cons, Option.map_some, Nat.reduceEqDiff, Int.reduceEq, Int.reduceLT, Nat.reduceAdd, Nat.reduceLeDiff, Nat.reduceLT, if_true, if_false, Bool.and_true, Bool.or_true, Bool.or_false, Bool.true_or, Bool.not_true, Bool.not_false, List.isEmpty_cons, beq_self_eq_true, Bool.false_eq_true, Nat.succ_ne_self, decide_true, decide_false, keepT_setT, List.take_succ_cons, hk, hL, hc, ht, str_ne']; rfl, by simp only [lookL_cons, if_true], by simp only [keepT, List.map, look_set, look_cons, in_int, in_loc, Nat.reduceEqDiff, if_true, if_false, wr3, List.contains_cons, List.contains_nil, beq_self_eq_true, Bool.or_false]⟩

theorem n4_end (N : Nat) (again : AC → St → Option (Ex × St)) (w : Int) (cs : List AV) (m : Mem) (T : List (Nat × AV)) (L : List (Nat × List AV)) (hL : lookL L 1 = some cs) (hk : keepT [1, 4, 6, 7] [1] T = [(1, .loc 1 0), (4, .int .i64 w), (6, .int .i64 0), (7, .int .i64 3)]) :
    ∃ T' L', codeEv (run A N) again a4_B1 ⟨121, T, L, m⟩ = some (.exit 2, ⟨121, T', L', m⟩) ∧ lookL L' 1 = some cs ∧ keepT [1, 4, 6] [1] T' = [(1, .loc 1 0), (4, .int .i64 w), (6, .int .i64 0)] := by
  unfold a4_B1
  exact ⟨_, _, by simp only [codeEv, opsEv, oneEv, guardEv, opE_mov, opE_bin, St.opd, look_set, look_nil, look_cons, St.put, bin_ilt, keepL, Option.map_some, Nat.reduceEqDiff, Int.reduceLT, Nat.reduceLT, if_true, if_false, Bool.false_eq_true, decide_false, hk, hL]; rfl, by simp only [lookL_cons, if_true], by simp only [keepT, List.map, look_set, look_cons, in_int, in_loc, Nat.reduceEqDiff, if_true, if_false, List.contains_cons, List.contains_nil, beq_self_eq_true, Bool.or_false]⟩
theorem loopN (N : Nat) (hN : 20 ≤ N) (w op a b c : Int) (m : Mem) (hT : Tab m) (T : List (Nat × AV)) (L : List (Nat × List AV)) (hL : lookL L 1 = some [.int .i64 op, .int .i64 a, .int .i64 b, .int .i64 c]) (hk : keepT [1, 4, 6, 7] [1] T = [(1, .loc 1 0), (4, .int .i64 w), (6, .int .i64 0), (7, .int .i64 0)]) :
    ∃ T' L', codeEv (run A N) (ev A N).2 a4_L1 ⟨121, T, L, m⟩ = some (.exit 2, ⟨121, T', L', m⟩) ∧ lookL L' 1 = some [.int .i64 op, .int .i64 a, .int .i64 b, .int .i64 c] ∧ keepT [1, 4, 6] [1] T' = [(1, .loc 1 0), (4, .int .i64 w), (6, .int .i64 0)] := by
  obtain ⟨n, rfl⟩ : ∃ n, N = n + 3 := ⟨N - 3, by omega⟩
  obtain ⟨T1, L1, a1, a2, a3⟩ := n4_0 (n + 3) (by omega) (ev A (n + 3)).2 w op a b c m hT T L hL hk
  obtain ⟨T2, L2, b1, b2, b3⟩ := n4_1 (n + 2) (by omega) (ev A (n + 2)).2 w op a b c m hT T1 L1 a2 a3
  obtain ⟨T3, L3, c1, c2, c3⟩ := n4_2 (n + 1) (by omega) (ev A (n + 1)).2 w op a b c m hT T2 L2 b2 b3
  obtain ⟨T4, L4, d1, d2, d3⟩ := n4_end n (ev A n).2 w _ m T3 L3 c2 c3
  refine ⟨T4, L4, ?_, d2, d3⟩
  rw [a4_L1_step, a1]
  dsimp only
  rw [again_of, a4_L1_step, b1]
  dsimp only
  rw [again_of, a4_L1_step, c1]
  dsimp only
  rw [again_of, a4_L1_step, d1]

end AG
