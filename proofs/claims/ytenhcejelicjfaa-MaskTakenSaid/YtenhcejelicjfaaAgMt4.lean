/- What the functions of masks and sets compute, and the laws of that. -/
import Derived.Test.YtenhcejelicjfaaAgMt3
namespace AG
open Go Go.Proofs.Ytenhcejelicjfaa
set_option maxRecDepth 100000
set_option maxHeartbeats 4000000



theorem sub_ok (x y : Int) (h1 : -9223372036854775808 ≤ x - y) (h2 : x - y ≤ 9223372036854775807) : binEv .sub (.int .i64 x) (.int .i64 y) = some (.int .i64 (x - y)) := by
  simp only [binEv, if_true, intBin, IntKind.wrap, IntKind.bits]
  simp [IntKind.signed]
  omega
theorem ok_range {a : Mk} (h : a.ok = true) : Sub a.must a.may ∧ 0 ≤ a.fr ∧ a.to ≤ 15 ∧ a.fr ≤ a.to := (ok_iff a).1 h

theorem a4_R1_ok (v : AV) (l : List V) (m : Mem) (hv : VS m v l) (a b : Mk) (set pend : BitVec 32) (lv ac : Int)  (N : Nat) (hN : 250 ≤ N) (again : AC → St → Option (Ex × St)) (T : List (Nat × AV)) (q : _) (hq : codeEv (run A N) again a4_R1 ⟨175, T, [(7, [U a.may, U a.must, .int .i64 a.fr, .int .i64 a.to]), (8, [U b.may, U b.must, .int .i64 b.fr, .int .i64 b.to])], m⟩ = q) (hk : keepT [2, 3, 4, 5, 6, 7, 8] [7, 8] T = [(2, U set), (3, U pend), (4, .int .i64 lv), (5, .int .i64 ac), (6, v), (7, .loc 7 0), (8, .loc 8 0)]) :
    ∃ T', q = some (.norm, ⟨175, T', [(7, [U a.may, U a.must, .int .i64 a.fr, .int .i64 a.to]), (8, [U b.may, U b.must, .int .i64 b.fr, .int .i64 b.to])], m⟩) ∧ keepT [2, 3, 4, 5, 6, 7, 8] [7, 8] T' = [(2, U set), (3, U pend), (4, .int .i64 lv), (5, .int .i64 ac), (6, v), (7, .loc 7 0), (8, .loc 8 0)] ∧ look T' 42 = .bool (!(a.ok && (b.ok && (!decide (40 < l.length) && decide (checkV l = 0))))) := by
  subst hq
  obtain ⟨p1, p2, p3, p4⟩ := hv.plain
  have hLL : keepL [(7, [U a.may, U a.must, .int .i64 a.fr, .int .i64 a.to]), (8, [U b.may, U b.must, .int .i64 b.fr, .int .i64 b.to])] [7, 8] = [(7, [U a.may, U a.must, .int .i64 a.fr, .int .i64 a.to]), (8, [U b.may, U b.must, .int .i64 b.fr, .int .i64 b.to])] := rfl
  have lg : logOk [] = true := rfl
  have hln := hv.lenR
  obtain ⟨n, rfl⟩ : ∃ n, N = n + 1 := ⟨N - 1, by omega⟩
  have c1 := check_mk n a m
  have c2 := check_mk n b m
  have c3 := rcheck_spec (n + 1) (by omega) m v l hv
  simp only [av_cells] at c1 c2
  unfold a4_R1
  rw [codeEv_keep, hk, hLL]
  by_cases ha : a.ok = true
  · simp only [ha, if_true] at c1
    by_cases hb : b.ok = true
    · simp only [hb, if_true] at c2
      by_cases h4 : 40 < l.length
      · have h4' : (40 : Int) < (l.length : Int) := by omega
        exact ⟨_, (by simp only [codeEv, opsEv, oneEv, guardEv, opE_mov, opE_pick, opE_loadk, opE_bin, opE_call, opE_lenL, St.opd, look_set, look_cons, St.put, St.read, lookL, cellsAt_cons, bin_igt, bin_ine, loc_agg, callWith, List.map, List.length, List.take, List.drop, List.any, List.take_succ_cons, Option.map_some, Nat.reduceEqDiff, Nat.reduceAdd, Nat.reduceLeDiff, Nat.reduceLT, if_true, if_false, Bool.or_false, Bool.not_true, beq_self_eq_true, Bool.false_eq_true, Nat.succ_ne_self, decide_true, beq_tf, c1, c2, hln, h4']; rfl), (by simp only [keepT, List.map, look_set, look_cons, in_int, in_U, in_loc, Nat.reduceEqDiff, if_true, if_false, List.contains_cons, List.contains_nil, Nat.reduceBEq, beq_self_eq_true, Bool.or_true, Bool.or_false, p1]), (by simp only [look_set, look_cons, Nat.reduceEqDiff, if_true, if_false, ha, hb, h4, decide_true, Bool.not_true, Bool.false_and, Bool.and_false, Bool.not_false])⟩
      · have h4' : ¬ (40 : Int) < (l.length : Int) := by omega
        by_cases hc : checkV l = 0
        · have hc := eq_true hc
          exact ⟨_, (by simp only [codeEv, opsEv, oneEv, guardEv, opE_mov, opE_pick, opE_loadk, opE_bin, opE_call, opE_lenL, St.opd, look_set, look_cons, St.put, St.read, lookL, cellsAt_cons, bin_igt, bin_ine, loc_agg, callWith, List.map, List.length, List.take, List.drop, List.any, List.take_succ_cons, Option.map_some, Nat.reduceEqDiff, Nat.reduceAdd, Nat.reduceLeDiff, Nat.reduceLT, if_true, if_false, Bool.or_false, Bool.not_true, beq_self_eq_true, Bool.false_eq_true, Nat.succ_ne_self, decide_true, decide_false, c1, c2, hln, h4', p2, c3, hc]; rfl), (by simp only [keepT, List.map, look_set, look_cons, in_int, in_U, in_loc, Nat.reduceEqDiff, if_true, if_false, List.contains_cons, List.contains_nil, Nat.reduceBEq, beq_self_eq_true, Bool.or_true, Bool.or_false, p1]), (by simp only [look_set, look_cons, Nat.reduceEqDiff, if_true, if_false, ha, hb, h4, hc, decide_true, decide_false, Bool.not_true, Bool.not_false, Bool.and_true])⟩
        · exact ⟨_, (by simp only [codeEv, opsEv, oneEv, guardEv, opE_mov, opE_pick, opE_loadk, opE_bin, opE_call, opE_lenL, St.opd, look_set, look_cons, St.put, St.read, lookL, cellsAt_cons, bin_igt, bin_ine, loc_agg, callWith, List.map, List.length, List.take, List.drop, List.any, List.take_succ_cons, Option.map_some, Nat.reduceEqDiff, Nat.reduceAdd, Nat.reduceLeDiff, Nat.reduceLT, if_true, if_false, Bool.or_false, Bool.not_true, Bool.not_false, beq_self_eq_true, Bool.false_eq_true, Nat.succ_ne_self, decide_true, decide_false, c1, c2, hln, h4', p2, c3, hc]; rfl), (by simp only [keepT, List.map, look_set, look_cons, in_int, in_U, in_loc, Nat.reduceEqDiff, if_true, if_false, List.contains_cons, List.contains_nil, Nat.reduceBEq, beq_self_eq_true, Bool.or_true, Bool.or_false, p1]), (by simp only [look_set, look_cons, Nat.reduceEqDiff, if_true, if_false, ha, hb, h4, hc, decide_false, Bool.not_false, Bool.and_false])⟩
    · simp only [hb] at c2
      exact ⟨_, (by simp only [codeEv, opsEv, oneEv, guardEv, opE_mov, opE_pick, opE_loadk, opE_bin, opE_call, St.opd, look_set, look_cons, St.put, St.read, lookL, cellsAt_cons, bin_ine, loc_agg, callWith, List.map, List.length, List.take, List.drop, List.any, List.take_succ_cons, Option.map_some, Nat.reduceEqDiff, Nat.reduceAdd, Nat.reduceLeDiff, Nat.reduceLT, if_true, if_false, Bool.or_false, Bool.not_true, Bool.not_false, beq_self_eq_true, Bool.false_eq_true, Nat.succ_ne_self, decide_true, decide_false, beq_tf, c1, c2, eq20]; rfl), (by simp only [keepT, List.map, look_set, look_cons, in_int, in_U, in_loc, Nat.reduceEqDiff, if_true, if_false, List.contains_cons, List.contains_nil, Nat.reduceBEq, beq_self_eq_true, Bool.or_true, Bool.or_false, p1]), (by simp only [look_set, look_cons, Nat.reduceEqDiff, if_true, if_false, ha, hb, Bool.false_and, Bool.and_false, Bool.not_false])⟩
  · simp only [ha] at c1
    exact ⟨_, (by simp only [codeEv, opsEv, oneEv, guardEv, opE_mov, opE_pick, opE_loadk, opE_bin, opE_call, St.opd, look_set, look_cons, St.put, St.read, lookL, cellsAt_cons, bin_ine, loc_agg, callWith, List.map, List.length, List.take, List.drop, List.any, List.take_succ_cons, Option.map_some, Nat.reduceEqDiff, Nat.reduceAdd, Nat.reduceLeDiff, Nat.reduceLT, if_true, if_false, Bool.or_false, Bool.not_false, Bool.false_eq_true, Nat.succ_ne_self, decide_false, beq_tf, c1, eq20]; rfl), (by simp only [keepT, List.map, look_set, look_cons, in_int, in_U, in_loc, Nat.reduceEqDiff, if_true, if_false, List.contains_cons, List.contains_nil, Nat.reduceBEq, beq_self_eq_true, Bool.or_true, Bool.or_false, p1]), (by simp only [look_set, look_cons, Nat.reduceEqDiff, if_true, if_false, ha, Bool.false_and, Bool.not_false])⟩

theorem a4_R2_ok (v : AV) (l : List V) (m : Mem) (hv : VS m v l) (a b : Mk) (set pend : BitVec 32) (lv ac : Int) (ha : a.ok = true) (N : Nat) (hN : 250 ≤ N) (again : AC → St → Option (Ex × St)) (T : List (Nat × AV)) (q : _) (hq : codeEv (run A N) again a4_R2 ⟨175, T, [(7, [U a.may, U a.must, .int .i64 a.fr, .int .i64 a.to]), (8, [U b.may, U b.must, .int .i64 b.fr, .int .i64 b.to])], m⟩ = q) (hk : keepT [2, 3, 4, 5, 6, 7, 8] [7, 8] T = [(2, U set), (3, U pend), (4, .int .i64 lv), (5, .int .i64 ac), (6, v), (7, .loc 7 0), (8, .loc 8 0)]) :
    ∃ T', q = some (.norm, ⟨175, T', [(7, [U a.may, U a.must, .int .i64 a.fr, .int .i64 a.to]), (8, [U b.may, U b.must, .int .i64 b.fr, .int .i64 b.to])], m⟩) ∧ keepT [2, 3, 4, 5, 6, 7, 8] [7, 8] T' = [(2, U set), (3, U pend), (4, .int .i64 (a.fr + pickI lv (a.to - a.fr + 1))), (5, .int .i64 ac), (6, v), (7, .loc 7 0), (8, .loc 8 0)] := by
  subst hq
  obtain ⟨p1, p2, p3, p4⟩ := hv.plain
  have hLL : keepL [(7, [U a.may, U a.must, .int .i64 a.fr, .int .i64 a.to]), (8, [U b.may, U b.must, .int .i64 b.fr, .int .i64 b.to])] [7, 8] = [(7, [U a.may, U a.must, .int .i64 a.fr, .int .i64 a.to]), (8, [U b.may, U b.must, .int .i64 b.fr, .int .i64 b.to])] := rfl
  have lg : logOk [] = true := rfl
  obtain ⟨_, r1, r2, r3⟩ := ok_range ha
  have hs := sub_ok a.to a.fr (by omega) (by omega)
  have h1 := add_ok (a.to - a.fr) 1 (by omega) (by omega)
  have pk := pick_spec N (by omega) lv (a.to - a.fr + 1) (by omega) (by omega) m
  obtain ⟨g1, g2⟩ := pickI_range lv (a.to - a.fr + 1) (by omega)
  have h2 := add_ok a.fr (pickI lv (a.to - a.fr + 1)) (by omega) (by omega)
  unfold a4_R2
  rw [codeEv_keep, hk, hLL]
  exact ⟨_, (by simp only [codeEv, guardEv, opE_mov, opE_load1, opE_bin, opE_faddr, opE_call, St.opd, look_set, look_cons, St.put, St.read, lookL, cellsAt_cons, loc_int, callWith, careEv, dOneEv, dOpsEv, accOf, accEv, Option.toList_some, List.append_nil, List.map, List.length, List.take, List.drop, List.any, List.take_succ_cons, Option.map_some, Nat.reduceEqDiff, Nat.reduceAdd, Nat.reduceLeDiff, Nat.reduceLT, if_true, if_false, Bool.and_false, Bool.or_false, Bool.not_true, Bool.false_eq_true, Nat.succ_ne_self, lg, hs, h1, pk, h2]; rfl), (by simp only [keepT, List.map, look_set, look_cons, in_int, in_U, in_loc, Nat.reduceEqDiff, if_true, if_false, List.contains_cons, List.contains_nil, Nat.reduceBEq, beq_self_eq_true, Bool.or_true, Bool.or_false, p1])⟩

theorem a4_R3_ok (v : AV) (l : List V) (m : Mem) (hv : VS m v l) (a b : Mk) (set pend : BitVec 32) (lv ac : Int)  (N : Nat) (hN : 250 ≤ N) (again : AC → St → Option (Ex × St)) (T : List (Nat × AV)) (q : _) (hq : codeEv (run A N) again a4_R3 ⟨175, T, [(7, [U a.may, U a.must, .int .i64 a.fr, .int .i64 a.to]), (8, [U b.may, U b.must, .int .i64 b.fr, .int .i64 b.to])], m⟩ = q) (hk : keepT [2, 3, 4, 5, 6, 7, 8] [7, 8] T = [(2, U set), (3, U pend), (4, .int .i64 lv), (5, .int .i64 ac), (6, v), (7, .loc 7 0), (8, .loc 8 0)]) :
    ∃ T', q = some (.norm, ⟨175, T', [(7, [U a.may, U a.must, .int .i64 a.fr, .int .i64 a.to]), (8, [U b.may, U b.must, .int .i64 b.fr, .int .i64 b.to])], m⟩) ∧ keepT [2, 3, 4, 5, 6, 7, 8] [7, 8] T' = [(2, U (a.must ||| (set &&& a.may))), (3, U pend), (4, .int .i64 lv), (5, .int .i64 ac), (6, v), (7, .loc 7 0), (8, .loc 8 0)] := by
  subst hq
  obtain ⟨p1, p2, p3, p4⟩ := hv.plain
  have hLL : keepL [(7, [U a.may, U a.must, .int .i64 a.fr, .int .i64 a.to]), (8, [U b.may, U b.must, .int .i64 b.fr, .int .i64 b.to])] [7, 8] = [(7, [U a.may, U a.must, .int .i64 a.fr, .int .i64 a.to]), (8, [U b.may, U b.must, .int .i64 b.fr, .int .i64 b.to])] := rfl
  have lg : logOk [] = true := rfl
  unfold a4_R3
  rw [codeEv_keep, hk, hLL]
  exact ⟨_, (by simp only [codeEv, opsEv, oneEv, guardEv, opE_mov, opE_load1, opE_bin, opE_faddr, St.opd, look_set, look_cons, St.put, St.read, lookL, cellsAt_cons, bin_and, bin_or, List.length, List.take, List.drop, List.take_succ_cons, Option.map_some, Nat.reduceEqDiff, Nat.reduceAdd, Nat.reduceLeDiff, Nat.reduceLT, if_true, if_false, Nat.succ_ne_self]; rfl), (by simp only [keepT, List.map, look_set, look_cons, in_int, in_U, in_loc, Nat.reduceEqDiff, if_true, if_false, List.contains_cons, List.contains_nil, Nat.reduceBEq, beq_self_eq_true, Bool.or_true, Bool.or_false, p1])⟩

theorem a4_R4_ok (v : AV) (l : List V) (m : Mem) (hv : VS m v l) (a b : Mk) (set pend : BitVec 32) (lv ac : Int) (ha : a.ok = true) (hl : l.length ≤ 1000000) (N : Nat) (hN : 250 ≤ N) (again : AC → St → Option (Ex × St)) (T : List (Nat × AV)) (q : _) (hq : codeEv (run A N) again a4_R4 ⟨175, T, [(7, [U a.may, U a.must, .int .i64 a.fr, .int .i64 a.to]), (8, [U b.may, U b.must, .int .i64 b.fr, .int .i64 b.to])], m⟩ = q) (hk : keepT [2, 3, 4, 5, 6, 7, 8] [7, 8] T = [(2, U set), (3, U pend), (4, .int .i64 lv), (5, .int .i64 ac), (6, v), (7, .loc 7 0), (8, .loc 8 0)]) :
    ∃ T', q = some (.norm, ⟨175, T', [(7, [U a.may, U a.must, .int .i64 a.fr, .int .i64 a.to]), (8, [U b.may, U b.must, .int .i64 b.fr, .int .i64 b.to])], m⟩) ∧ keepT [2, 3, 4, 5, 6, 7, 8, 15, 16] [7, 8] T' = [(2, U set), (3, U pend), (4, .int .i64 lv), (5, .int .i64 ac), (6, v), (7, .loc 7 0), (8, .loc 8 0), (15, U (those a.may a.fr ac l)), (16, U (those a.must a.to ac l))] := by
  subst hq
  obtain ⟨p1, p2, p3, p4⟩ := hv.plain
  have hLL : keepL [(7, [U a.may, U a.must, .int .i64 a.fr, .int .i64 a.to]), (8, [U b.may, U b.must, .int .i64 b.fr, .int .i64 b.to])] [7, 8] = [(7, [U a.may, U a.must, .int .i64 a.fr, .int .i64 a.to]), (8, [U b.may, U b.must, .int .i64 b.fr, .int .i64 b.to])] := rfl
  have lg : logOk [] = true := rfl
  have c1 := come_spec N (by omega) m v l hv hl a ac
  have c2 := sure_spec N (by omega) m v l hv hl a ac
  simp only [ha, if_true, av_cells] at c1 c2
  unfold a4_R4
  rw [codeEv_keep, hk, hLL]
  exact ⟨_, (by simp only [codeEv, guardEv, opE_mov, opE_loadk, opE_call, St.opd, look_set, look_cons, St.put, St.read, lookL, cellsAt_cons, loc_int, loc_agg, callWith, careEv, dOneEv, dOpsEv, accOf, accEv, Option.toList_some, List.append_nil, List.map, List.length, List.take, List.drop, List.any, List.take_succ_cons, Nat.reduceEqDiff, Nat.reduceAdd, Nat.reduceLeDiff, Nat.reduceLT, if_true, if_false, Bool.and_false, Bool.or_false, Bool.not_true, Bool.false_eq_true, Nat.succ_ne_self, lg, p2, c1, c2]; rfl), (by simp only [keepT, List.map, look_set, look_cons, in_int, in_U, in_loc, Nat.reduceEqDiff, if_true, if_false, List.contains_cons, List.contains_nil, Nat.reduceBEq, beq_self_eq_true, Bool.or_true, Bool.or_false, p1])⟩

theorem a4_R5_ok (v : AV) (l : List V) (m : Mem) (hv : VS m v l) (a b : Mk) (set pend : BitVec 32) (lv ac : Int) (come sure : BitVec 32) (hh : a.has set lv = true) (hs : sure &&& ~~~come = 0#32) (N : Nat) (hN : 250 ≤ N) (again : AC → St → Option (Ex × St)) (T : List (Nat × AV)) (q : _) (hq : codeEv (run A N) again a4_R5 ⟨175, T, [(7, [U a.may, U a.must, .int .i64 a.fr, .int .i64 a.to]), (8, [U b.may, U b.must, .int .i64 b.fr, .int .i64 b.to])], m⟩ = q) (hk : keepT [2, 3, 4, 5, 6, 7, 8, 15, 16] [7, 8] T = [(2, U set), (3, U pend), (4, .int .i64 lv), (5, .int .i64 ac), (6, v), (7, .loc 7 0), (8, .loc 8 0), (15, U come), (16, U sure)]) :
    ∃ T', q = some (.norm, ⟨175, T', [(7, [U a.may, U a.must, .int .i64 a.fr, .int .i64 a.to]), (8, [U b.may, U b.must, .int .i64 b.fr, .int .i64 b.to])], m⟩) ∧ keepT [2, 3, 4, 5, 6, 7, 8, 15, 16] [7, 8] T' = [(2, U set), (3, U pend), (4, .int .i64 lv), (5, .int .i64 ac), (6, v), (7, .loc 7 0), (8, .loc 8 0), (15, U come), (16, U sure)] ∧ look T' 81 = .bool false := by
  subst hq
  obtain ⟨p1, p2, p3, p4⟩ := hv.plain
  have hLL : keepL [(7, [U a.may, U a.must, .int .i64 a.fr, .int .i64 a.to]), (8, [U b.may, U b.must, .int .i64 b.fr, .int .i64 b.to])] [7, 8] = [(7, [U a.may, U a.must, .int .i64 a.fr, .int .i64 a.to]), (8, [U b.may, U b.must, .int .i64 b.fr, .int .i64 b.to])] := rfl
  have lg : logOk [] = true := rfl
  have c1 := mhas_spec N (by omega) m a set lv
  simp only [hh, av_cells] at c1
  have z0 := eq_true (rfl : (0#32 : BitVec 32) = 0#32)
  unfold a4_R5
  rw [codeEv_keep, hk, hLL]
  exact ⟨_, (by simp only [codeEv, opsEv, oneEv, guardEv, opE_mov, opE_pick, opE_loadk, opE_bin, opE_un, opE_call, St.opd, look_set, look_cons, St.put, St.read, lookL, cellsAt_cons, bin_andNot, bin_une, loc_int, loc_agg, loc_U, unEv, callWith, List.map, List.length, List.take, List.drop, List.any, List.take_succ_cons, Option.map_some, Nat.reduceEqDiff, Nat.reduceAdd, Nat.reduceLeDiff, Nat.reduceLT, if_true, if_false, Bool.or_false, Bool.not_true, beq_self_eq_true, Bool.false_eq_true, Nat.succ_ne_self, decide_true, u_0, c1, hs]; rfl), (by simp only [keepT, List.map, look_set, look_cons, in_int, in_U, in_loc, Nat.reduceEqDiff, if_true, if_false, List.contains_cons, List.contains_nil, Nat.reduceBEq, beq_self_eq_true, Bool.or_true, Bool.or_false, p1]), (by simp only [look_set, look_cons, Nat.reduceEqDiff, if_true, if_false])⟩

theorem a4_R6_ok (v : AV) (l : List V) (m : Mem) (hv : VS m v l) (a b : Mk) (set pend : BitVec 32) (lv ac : Int) (come sure : BitVec 32) (N : Nat) (hN : 250 ≤ N) (again : AC → St → Option (Ex × St)) (T : List (Nat × AV)) (q : _) (hq : codeEv (run A N) again a4_R6 ⟨175, T, [(7, [U a.may, U a.must, .int .i64 a.fr, .int .i64 a.to]), (8, [U b.may, U b.must, .int .i64 b.fr, .int .i64 b.to])], m⟩ = q) (hk : keepT [2, 3, 4, 5, 6, 7, 8, 15, 16] [7, 8] T = [(2, U set), (3, U pend), (4, .int .i64 lv), (5, .int .i64 ac), (6, v), (7, .loc 7 0), (8, .loc 8 0), (15, U come), (16, U sure)]) :
    ∃ T', q = some (.norm, ⟨175, T', [(7, [U a.may, U a.must, .int .i64 a.fr, .int .i64 a.to]), (8, [U b.may, U b.must, .int .i64 b.fr, .int .i64 b.to])], m⟩) ∧ keepT [2, 4, 5, 6, 7, 8, 15, 16, 17, 18] [7, 8] T' = [(2, U set), (4, .int .i64 lv), (5, .int .i64 ac), (6, v), (7, .loc 7 0), (8, .loc 8 0), (15, U come), (16, U sure), (17, .int .i64 (max 0 (bI (takeR pend set lv ac l)))), (18, .bool (decide (0 ≤ bI (takeR pend set lv ac l))))] := by
  subst hq
  obtain ⟨p1, p2, p3, p4⟩ := hv.plain
  have hLL : keepL [(7, [U a.may, U a.must, .int .i64 a.fr, .int .i64 a.to]), (8, [U b.may, U b.must, .int .i64 b.fr, .int .i64 b.to])] [7, 8] = [(7, [U a.may, U a.must, .int .i64 a.fr, .int .i64 a.to]), (8, [U b.may, U b.must, .int .i64 b.fr, .int .i64 b.to])] := rfl
  have lg : logOk [] = true := rfl
  have tk := rtake_spec N (by omega) pend set lv ac m v l hv
  unfold takeAV at tk
  unfold a4_R6
  rw [codeEv_keep, hk, hLL]
  exact ⟨_, (by simp only [codeEv, opsEv, oneEv, guardEv, opE_mov, opE_ext, opE_call, St.opd, look_set, look_cons, St.put, loc_int, loc_U, callWith, List.map, List.any, List.getElem?_cons_succ, List.getElem?_cons_zero, Option.map_some, Nat.reduceEqDiff, Nat.reduceLT, if_true, if_false, Bool.or_false, Bool.false_eq_true, Nat.succ_ne_self, p2, tk]; rfl), (by simp only [keepT, List.map, look_set, look_cons, in_int, in_U, in_bool, in_loc, Nat.reduceEqDiff, if_true, if_false, List.contains_cons, List.contains_nil, Nat.reduceBEq, beq_self_eq_true, Bool.or_true, Bool.or_false, p1])⟩

theorem a4_R7_ok (v : AV) (l : List V) (m : Mem) (hv : VS m v l) (a b : Mk) (set pend : BitVec 32) (lv ac : Int) (come sure : BitVec 32) (k : Int) (is : Bool) (h : is = true → ∃ kk : Nat, k = kk ∧ kk < 32 ∧ come.getLsbD kk = true) (N : Nat) (hN : 250 ≤ N) (again : AC → St → Option (Ex × St)) (T : List (Nat × AV)) (q : _) (hq : codeEv (run A N) again a4_R7 ⟨175, T, [(7, [U a.may, U a.must, .int .i64 a.fr, .int .i64 a.to]), (8, [U b.may, U b.must, .int .i64 b.fr, .int .i64 b.to])], m⟩ = q) (hk : keepT [2, 4, 5, 6, 7, 8, 15, 16, 17, 18] [7, 8] T = [(2, U set), (4, .int .i64 lv), (5, .int .i64 ac), (6, v), (7, .loc 7 0), (8, .loc 8 0), (15, U come), (16, U sure), (17, .int .i64 k), (18, .bool is)]) :
    ∃ T', q = some (.norm, ⟨175, T', [(7, [U a.may, U a.must, .int .i64 a.fr, .int .i64 a.to]), (8, [U b.may, U b.must, .int .i64 b.fr, .int .i64 b.to])], m⟩) ∧ keepT [2, 4, 5, 6, 7, 8, 15, 16] [7, 8] T' = [(2, U set), (4, .int .i64 lv), (5, .int .i64 ac), (6, v), (7, .loc 7 0), (8, .loc 8 0), (15, U come), (16, U sure)] ∧ look T' 99 = .bool false := by
  subst hq
  obtain ⟨p1, p2, p3, p4⟩ := hv.plain
  have hLL : keepL [(7, [U a.may, U a.must, .int .i64 a.fr, .int .i64 a.to]), (8, [U b.may, U b.must, .int .i64 b.fr, .int .i64 b.to])] [7, 8] = [(7, [U a.may, U a.must, .int .i64 a.fr, .int .i64 a.to]), (8, [U b.may, U b.must, .int .i64 b.fr, .int .i64 b.to])] := rfl
  have lg : logOk [] = true := rfl
  unfold a4_R7
  rw [codeEv_keep, hk, hLL]
  cases is
  · exact ⟨_, (by simp only [codeEv, opsEv, oneEv, guardEv, opE_mov, opE_pick, St.opd, look_set, look_cons, St.put, Nat.reduceEqDiff, Nat.reduceLT, if_true, if_false, Bool.false_eq_true, Nat.succ_ne_self, beq_ft]; rfl), (by simp only [keepT, List.map, look_set, look_cons, in_int, in_U, in_loc, Nat.reduceEqDiff, if_true, if_false, List.contains_cons, List.contains_nil, Nat.reduceBEq, beq_self_eq_true, Bool.or_true, Bool.or_false, p1]), (by simp only [look_set, look_cons, Nat.reduceEqDiff, if_true, if_false])⟩
  · obtain ⟨kk, rfl, h1, h2⟩ := h rfl
    have w := u64_small (kk : Int) (by omega) (by omega)
    have hsh := bin_shr come .u64 (kk : Int) (by omega)
    rw [Int.toNat_natCast] at hsh
    have hz : ¬ (come >>> kk &&& 1#32 = 0#32) := fun h => by
      have e := bit_and come kk
      rw [h2] at e
      have := of_decide_eq_true e
      rw [h] at this
      simp at this
    exact ⟨_, (by simp only [codeEv, opsEv, oneEv, guardEv, opE_mov, opE_pick, opE_bin, opE_conv, St.opd, look_set, look_cons, St.put, bin_and, bin_ueq, Option.map_some, Nat.reduceEqDiff, Nat.reduceLT, if_true, if_false, beq_self_eq_true, Nat.succ_ne_self, decide_false, u_0, u_1, w, hsh, hz]; rfl), (by simp only [keepT, List.map, look_set, look_cons, in_int, in_U, in_loc, Nat.reduceEqDiff, if_true, if_false, List.contains_cons, List.contains_nil, Nat.reduceBEq, beq_self_eq_true, Bool.or_true, Bool.or_false, p1]), (by simp only [look_set, look_cons, Nat.reduceEqDiff, if_true, if_false])⟩

theorem a4_R8_ok (v : AV) (l : List V) (m : Mem) (hv : VS m v l) (a b : Mk) (set pend : BitVec 32) (lv ac : Int) (come sure : BitVec 32) (i : Nat) (x : V) (hx : l[i]? = some x) (h0 : 0 ≤ x.line) (h31 : x.line ≤ 31) (N : Nat) (hN : 250 ≤ N) (again : AC → St → Option (Ex × St)) (T : List (Nat × AV)) (q : _) (hq : codeEv (run A N) again a4_R8 ⟨175, T, [(7, [U a.may, U a.must, .int .i64 a.fr, .int .i64 a.to]), (8, [U b.may, U b.must, .int .i64 b.fr, .int .i64 b.to])], m⟩ = q) (hk : keepT [2, 4, 5, 6, 7, 8, 15, 16, 19] [7, 8] T = [(2, U set), (4, .int .i64 lv), (5, .int .i64 ac), (6, v), (7, .loc 7 0), (8, .loc 8 0), (15, U come), (16, U sure), (19, .int .i64 (i : Int))]) :
    ∃ T', q = some (.norm, ⟨175, T', [(7, [U a.may, U a.must, .int .i64 a.fr, .int .i64 a.to]), (8, [U b.may, U b.must, .int .i64 b.fr, .int .i64 b.to])], m⟩) ∧ keepT [2, 4, 5, 6, 7, 8, 15, 16, 19, 20, 21] [7, 8] T' = [(2, U set), (4, .int .i64 lv), (5, .int .i64 ac), (6, v), (7, .loc 7 0), (8, .loc 8 0), (15, U come), (16, U sure), (19, .int .i64 (i : Int)), (20, .int .i64 (max 0 (bI (takeR (1#32 <<< x.line.toNat) set lv ac l)))), (21, .bool (decide (0 ≤ bI (takeR (1#32 <<< x.line.toNat) set lv ac l))))] := by
  subst hq
  obtain ⟨p1, p2, p3, p4⟩ := hv.plain
  have hLL : keepL [(7, [U a.may, U a.must, .int .i64 a.fr, .int .i64 a.to]), (8, [U b.may, U b.must, .int .i64 b.fr, .int .i64 b.to])] [7, 8] = [(7, [U a.may, U a.must, .int .i64 a.fr, .int .i64 a.to]), (8, [U b.may, U b.must, .int .i64 b.fr, .int .i64 b.to])] := rfl
  have lg : logOk [] = true := rfl
  have hi := idx_ok hx
  have w := u64_small x.line h0 (by omega)
  have hsh := bin_shl 1#32 .u64 x.line h0
  have tk := rtake_spec N (by omega) (1#32 <<< x.line.toNat) set lv ac m v l hv
  unfold takeAV at tk
  rcases hv with ⟨rfl, rfl⟩ | ⟨bb, o, cap, e, rfl, hm⟩
  · cases hx
  obtain ⟨c, own, hc, hc3⟩ := hm i x hx
  obtain ⟨_, gl, _⟩ := cells_fld hc3
  unfold a4_R8
  rw [codeEv_keep, hk, hLL]
  exact ⟨_, (by simp only [codeEv, opsEv, oneEv, guardEv, opE_mov, opE_load1, opE_bin, opE_conv, opE_faddr, opE_iaddrL, opE_ext, opE_call, elemR_slice, St.opd, look_set, look_cons, St.put, St.read, loc_int, loc_slice, loc_U, callWith, List.map, List.any, List.getElem?_cons_succ, List.getElem?_cons_zero, Option.map_some, Nat.reduceEqDiff, Nat.reduceLT, if_true, if_false, Bool.or_false, Bool.false_eq_true, Nat.succ_ne_self, u_1, hi, and_self, Int.toNat_natCast, hc, gl, w, hsh, tk]; rfl), (by simp only [keepT, List.map, look_set, look_cons, in_int, in_U, in_bool, in_slice, in_loc, Nat.reduceEqDiff, if_true, if_false, List.contains_cons, List.contains_nil, Nat.reduceBEq, beq_self_eq_true, Bool.or_true, Bool.or_false])⟩

theorem a4_R9_ok (v : AV) (l : List V) (m : Mem) (hv : VS m v l) (a b : Mk) (set pend : BitVec 32) (lv ac : Int) (come sure : BitVec 32) (i : Nat) (hi : i < 32) (k2 : Int) (is2 : Bool) (h : sure.getLsbD i = true → is2 = true ∧ k2 = i) (N : Nat) (hN : 250 ≤ N) (again : AC → St → Option (Ex × St)) (T : List (Nat × AV)) (q : _) (hq : codeEv (run A N) again a4_R9 ⟨175, T, [(7, [U a.may, U a.must, .int .i64 a.fr, .int .i64 a.to]), (8, [U b.may, U b.must, .int .i64 b.fr, .int .i64 b.to])], m⟩ = q) (hk : keepT [2, 4, 5, 6, 7, 8, 15, 16, 19, 20, 21] [7, 8] T = [(2, U set), (4, .int .i64 lv), (5, .int .i64 ac), (6, v), (7, .loc 7 0), (8, .loc 8 0), (15, U come), (16, U sure), (19, .int .i64 (i : Int)), (20, .int .i64 k2), (21, .bool is2)]) :
    ∃ T', q = some (.norm, ⟨175, T', [(7, [U a.may, U a.must, .int .i64 a.fr, .int .i64 a.to]), (8, [U b.may, U b.must, .int .i64 b.fr, .int .i64 b.to])], m⟩) ∧ keepT [2, 4, 5, 6, 7, 8, 15, 16, 19] [7, 8] T' = [(2, U set), (4, .int .i64 lv), (5, .int .i64 ac), (6, v), (7, .loc 7 0), (8, .loc 8 0), (15, U come), (16, U sure), (19, .int .i64 (i : Int))] ∧ look T' 135 = .bool false := by
  subst hq
  obtain ⟨p1, p2, p3, p4⟩ := hv.plain
  have hLL : keepL [(7, [U a.may, U a.must, .int .i64 a.fr, .int .i64 a.to]), (8, [U b.may, U b.must, .int .i64 b.fr, .int .i64 b.to])] [7, 8] = [(7, [U a.may, U a.must, .int .i64 a.fr, .int .i64 a.to]), (8, [U b.may, U b.must, .int .i64 b.fr, .int .i64 b.to])] := rfl
  have lg : logOk [] = true := rfl
  have w := u64_small (i : Int) (by omega) (by omega)
  have hsh := bin_shr sure .u64 (i : Int) (by omega)
  rw [Int.toNat_natCast] at hsh
  have hb := bit_and sure i
  unfold a4_R9
  rw [codeEv_keep, hk, hLL]
  cases hs : sure.getLsbD i
  · rw [hs] at hb
    have hb := of_decide_eq_false hb
    exact ⟨_, (by simp only [codeEv, opsEv, oneEv, guardEv, opE_mov, opE_pick, opE_bin, opE_conv, St.opd, look_set, look_cons, St.put, bin_and, bin_ueq, Option.map_some, Nat.reduceEqDiff, Nat.reduceLT, if_true, if_false, Bool.false_eq_true, Nat.succ_ne_self, decide_false, beq_ft, u_1, w, hsh, hb]; rfl), (by simp only [keepT, List.map, look_set, look_cons, in_int, in_U, in_loc, Nat.reduceEqDiff, if_true, if_false, List.contains_cons, List.contains_nil, Nat.reduceBEq, beq_self_eq_true, Bool.or_true, Bool.or_false, p1]), (by simp only [look_set, look_cons, Nat.reduceEqDiff, if_true, if_false])⟩
  · rw [hs] at hb
    have hb := eq_true (of_decide_eq_true hb)
    obtain ⟨rfl, rfl⟩ := h hs
    have ii := eq_true (rfl : (i : Int) = (i : Int))
    exact ⟨_, (by simp only [codeEv, opsEv, oneEv, guardEv, opE_mov, opE_pick, opE_bin, opE_un, opE_conv, St.opd, look_set, look_cons, St.put, bin_and, bin_ueq, bin_ine, unEv, Option.map_some, Nat.reduceEqDiff, Nat.reduceLT, if_true, if_false, Bool.not_true, beq_self_eq_true, Bool.false_eq_true, Nat.succ_ne_self, decide_true, u_1, w, hsh, hb]; rfl), (by simp only [keepT, List.map, look_set, look_cons, in_int, in_U, in_loc, Nat.reduceEqDiff, if_true, if_false, List.contains_cons, List.contains_nil, Nat.reduceBEq, beq_self_eq_true, Bool.or_true, Bool.or_false, p1]), (by simp only [look_set, look_cons, Nat.reduceEqDiff, if_true, if_false])⟩

theorem a4_R10_ok (v : AV) (l : List V) (m : Mem) (hv : VS m v l) (a b : Mk) (set pend : BitVec 32) (lv ac : Int) (come sure : BitVec 32) (j : Mk) (hl : l.length ≤ 1000000) (ha : a.ok = true) (hj : j.ok = true) (w1 : a.within j = true) (w2 : b.within j = true) (hac : 0 ≤ ac) (hac2 : ac ≤ 100) (e1 : come &&& ~~~ those j.may j.fr ac l = 0#32) (e2 : those j.must j.to ac l &&& ~~~ sure = 0#32) (e3 : those a.may a.fr (ac + 1) l &&& ~~~ come = 0#32) (N : Nat) (hN : 250 ≤ N) (again : AC → St → Option (Ex × St)) (T : List (Nat × AV)) (q : _) (hq : codeEv (run A N) again a4_R10 ⟨175, T, [(7, [U a.may, U a.must, .int .i64 a.fr, .int .i64 a.to]), (8, [U b.may, U b.must, .int .i64 b.fr, .int .i64 b.to]), (22, [U j.may, U j.must, .int .i64 j.fr, .int .i64 j.to])], m⟩ = q) (hk : keepT [5, 6, 7, 8, 15, 16, 22] [7, 8, 22] T = [(5, .int .i64 ac), (6, v), (7, .loc 7 0), (8, .loc 8 0), (15, U come), (16, U sure), (22, .loc 22 0)]) :
    ∃ T', q = some (.norm, ⟨175, T', [(7, [U a.may, U a.must, .int .i64 a.fr, .int .i64 a.to]), (8, [U b.may, U b.must, .int .i64 b.fr, .int .i64 b.to]), (22, [U j.may, U j.must, .int .i64 j.fr, .int .i64 j.to])], m⟩) ∧ look T' 14 = .bool true := by
  subst hq
  obtain ⟨p1, p2, p3, p4⟩ := hv.plain
  have hLL : keepL [(7, [U a.may, U a.must, .int .i64 a.fr, .int .i64 a.to]), (8, [U b.may, U b.must, .int .i64 b.fr, .int .i64 b.to]), (22, [U j.may, U j.must, .int .i64 j.fr, .int .i64 j.to])] [7, 8, 22] = [(7, [U a.may, U a.must, .int .i64 a.fr, .int .i64 a.to]), (8, [U b.may, U b.must, .int .i64 b.fr, .int .i64 b.to]), (22, [U j.may, U j.must, .int .i64 j.fr, .int .i64 j.to])] := rfl
  have lg : logOk [] = true := rfl
  obtain ⟨n, rfl⟩ : ∃ n, N = n + 3 := ⟨N - 3, by omega⟩
  have c1 := within_mk n a j m
  have c2 := within_mk n b j m
  have c3 := come_spec (n + 3) (by omega) m v l hv hl j ac
  have c4 := sure_spec (n + 3) (by omega) m v l hv hl j ac
  have c5 := come_spec (n + 3) (by omega) m v l hv hl a (ac + 1)
  have had := add_ok ac 1 (by omega) (by omega)
  simp only [ha, hj, w1, w2, if_true, av_cells] at c1 c2 c3 c4 c5
  have z0 := eq_true (rfl : (0#32 : BitVec 32) = 0#32)
  unfold a4_R10
  rw [codeEv_keep, hk, hLL]
  exact ⟨_, (by simp only [codeEv, opsEv, oneEv, guardEv, opE_mov, opE_pick, opE_loadk, opE_bin, opE_call, St.opd, look_set, look_cons, St.put, St.read, lookL, cellsAt_cons, bin_andNot, bin_ueq, loc_int, loc_agg, callWith, List.map, List.length, List.take, List.drop, List.any, List.take_succ_cons, Option.map_some, Nat.reduceEqDiff, Nat.reduceAdd, Nat.reduceLeDiff, Nat.reduceLT, if_true, if_false, Bool.or_false, beq_self_eq_true, Bool.false_eq_true, Nat.succ_ne_self, decide_true, u_0, p2, c1, c2, c3, c4, c5, e1, e2, e3, had]; rfl), (by simp only [look_set, look_cons, Nat.reduceEqDiff, if_true, if_false])⟩

end AG
