/- What the functions of masks and sets compute, and the laws of that. -/
import Derived.Test.YtenhcejelicjfaaDoorAgMc5
namespace AG
open Go Go.Proofs.YtenhcejelicjfaaDoor
set_option maxRecDepth 100000
set_option maxHeartbeats 4000000


def hx (op : Int) : Int × Int × Int :=
  if op = 2 then (1, 0, 0) else if op = 4 then (2, 0, 0) else if op = 8 then (2, 0, 0) else if op = 10 then (2, 0, 0) else if op = 11 then (2, 0, 0) else if op = 15 then (2, 0, 0) else if op = 16 then (2, 0, 0) else if op = 17 then (2, 0, 0) else if op = 23 then (2, 0, 0) else if op = 24 then (2, 0, 0) else if op = 5 then (2, 4, 0) else if op = 9 then (2, 4, 0) else if op = 6 then (2, 3, 0) else if op = 7 then (2, 3, 4) else if op = 12 then (5, 0, 0) else if op = 13 then (6, 0, 0) else if op = 14 then (4, 0, 0) else if op = 19 then (7, 0, 0) else if op = 20 then (7, 0, 0) else if op = 21 then (8, 0, 0) else (0, 0, 0)

theorem has_ex (N : Nat) (hN : 1 ≤ N) (op : Int) (m : Mem) : run A N 56 [.int .i64 op] m = some (.agg [.int .i64 (hx op).1, .int .i64 (hx op).2.1, .int .i64 (hx op).2.2], m) := by
  obtain ⟨n, rfl⟩ : ∃ n, N = n + 1 := ⟨N - 1, by omega⟩
  rw [run_56]
  unfold fnEv a56
  by_cases h2 : op = 2
  · subst h2
    have e : hx 2 = (1, 0, 0) := by decide
    rw [e]
    simp only [codeEv, opsEv, oneEv, guardEv, opEv, St.opd, look_set, look_cons, St.put, St.new, St.read, St.write, lookL, setL, cellsAt_cons, splice, argsT, resEv, bin_ieq, in_int, in_loc, List.contains_cons, List.contains_nil, one_int, cells_int, loc_agg, cells_agg, fillEv, keepL, List.append_nil, List.map, List.length, List.take, List.drop, List.all, List.cons_append, List.nil_append, List.take_succ_cons, List.drop_succ_cons, List.length_cons, Option.map_some, Nat.reduceEqDiff, Int.reduceEq, Nat.reduceAdd, Nat.reduceLeDiff, Nat.reduceLT, if_true, if_false, Bool.and_true, Bool.or_false, Bool.not_false, List.isEmpty_cons, beq_self_eq_true, Bool.false_eq_true, Nat.succ_ne_self, decide_true, decide_false, keepT_setT, keepT_lit]
  by_cases h4 : op = 4
  · subst h4
    have e : hx 4 = (2, 0, 0) := by decide
    rw [e]
    simp only [codeEv, opsEv, oneEv, guardEv, opEv, St.opd, look_set, look_cons, St.put, St.new, St.read, St.write, lookL, setL, cellsAt_cons, splice, argsT, resEv, bin_ieq, in_int, in_loc, List.contains_cons, List.contains_nil, one_int, cells_int, loc_agg, cells_agg, fillEv, keepL, List.append_nil, List.map, List.length, List.take, List.drop, List.all, List.cons_append, List.nil_append, List.take_succ_cons, List.drop_succ_cons, List.length_cons, Option.map_some, Nat.reduceEqDiff, Int.reduceEq, Nat.reduceAdd, Nat.reduceLeDiff, Nat.reduceLT, if_true, if_false, Bool.and_true, Bool.or_false, Bool.not_false, List.isEmpty_cons, beq_self_eq_true, Bool.false_eq_true, Nat.succ_ne_self, decide_true, decide_false, keepT_setT, keepT_lit]
  by_cases h8 : op = 8
  · subst h8
    have e : hx 8 = (2, 0, 0) := by decide
    rw [e]
    simp only [codeEv, opsEv, oneEv, guardEv, opEv, St.opd, look_set, look_cons, St.put, St.new, St.read, St.write, lookL, setL, cellsAt_cons, splice, argsT, resEv, bin_ieq, in_int, in_loc, List.contains_cons, List.contains_nil, one_int, cells_int, loc_agg, cells_agg, fillEv, keepL, List.append_nil, List.map, List.length, List.take, List.drop, List.all, List.cons_append, List.nil_append, List.take_succ_cons, List.drop_succ_cons, List.length_cons, Option.map_some, Nat.reduceEqDiff, Int.reduceEq, Nat.reduceAdd, Nat.reduceLeDiff, Nat.reduceLT, if_true, if_false, Bool.and_true, Bool.or_false, Bool.not_false, List.isEmpty_cons, beq_self_eq_true, Bool.false_eq_true, Nat.succ_ne_self, decide_true, decide_false, keepT_setT, keepT_lit]
  by_cases h10 : op = 10
  · subst h10
    have e : hx 10 = (2, 0, 0) := by decide
    rw [e]
    simp only [codeEv, opsEv, oneEv, guardEv, opEv, St.opd, look_set, look_cons, St.put, St.new, St.read, St.write, lookL, setL, cellsAt_cons, splice, argsT, resEv, bin_ieq, in_int, in_loc, List.contains_cons, List.contains_nil, one_int, cells_int, loc_agg, cells_agg, fillEv, keepL, List.append_nil, List.map, List.length, List.take, List.drop, List.all, List.cons_append, List.nil_append, List.take_succ_cons, List.drop_succ_cons, List.length_cons, Option.map_some, Nat.reduceEqDiff, Int.reduceEq, Nat.reduceAdd, Nat.reduceLeDiff, Nat.reduceLT, if_true, if_false, Bool.and_true, Bool.or_false, Bool.not_false, List.isEmpty_cons, beq_self_eq_true, Bool.false_eq_true, Nat.succ_ne_self, decide_true, decide_false, keepT_setT, keepT_lit]
  by_cases h11 : op = 11
  · subst h11
    have e : hx 11 = (2, 0, 0) := by decide
    rw [e]
    simp only [codeEv, opsEv, oneEv, guardEv, opEv, St.opd, look_set, look_cons, St.put, St.new, St.read, St.write, lookL, setL, cellsAt_cons, splice, argsT, resEv, bin_ieq, in_int, in_loc, List.contains_cons, List.contains_nil, one_int, cells_int, loc_agg, cells_agg, fillEv, keepL, List.append_nil, List.map, List.length, List.take, List.drop, List.all, List.cons_append, List.nil_append, List.take_succ_cons, List.drop_succ_cons, List.length_cons, Option.map_some, Nat.reduceEqDiff, Int.reduceEq, Nat.reduceAdd, Nat.reduceLeDiff, Nat.reduceLT, if_true, if_false, Bool.and_true, Bool.or_false, Bool.not_false, List.isEmpty_cons, beq_self_eq_true, Bool.false_eq_true, Nat.succ_ne_self, decide_true, decide_false, keepT_setT, keepT_lit]
  by_cases h15 : op = 15
  · subst h15
    have e : hx 15 = (2, 0, 0) := by decide
    rw [e]
    simp only [codeEv, opsEv, oneEv, guardEv, opEv, St.opd, look_set, look_cons, St.put, St.new, St.read, St.write, lookL, setL, cellsAt_cons, splice, argsT, resEv, bin_ieq, in_int, in_loc, List.contains_cons, List.contains_nil, one_int, cells_int, loc_agg, cells_agg, fillEv, keepL, List.append_nil, List.map, List.length, List.take, List.drop, List.all, List.cons_append, List.nil_append, List.take_succ_cons, List.drop_succ_cons, List.length_cons, Option.map_some, Nat.reduceEqDiff, Int.reduceEq, Nat.reduceAdd, Nat.reduceLeDiff, Nat.reduceLT, if_true, if_false, Bool.and_true, Bool.or_false, Bool.not_false, List.isEmpty_cons, beq_self_eq_true, Bool.false_eq_true, Nat.succ_ne_self, decide_true, decide_false, keepT_setT, keepT_lit]
  by_cases h16 : op = 16
  · subst h16
    have e : hx 16 = (2, 0, 0) := by decide
    rw [e]
    simp only [codeEv, opsEv, oneEv, guardEv, opEv, St.opd, look_set, look_cons, St.put, St.new, St.read, St.write, lookL, setL, cellsAt_cons, splice, argsT, resEv, bin_ieq, in_int, in_loc, List.contains_cons, List.contains_nil, one_int, cells_int, loc_agg, cells_agg, fillEv, keepL, List.append_nil, List.map, List.length, List.take, List.drop, List.all, List.cons_append, List.nil_append, List.take_succ_cons, List.drop_succ_cons, List.length_cons, Option.map_some, Nat.reduceEqDiff, Int.reduceEq, Nat.reduceAdd, Nat.reduceLeDiff, Nat.reduceLT, if_true, if_false, Bool.and_true, Bool.or_false, Bool.not_false, List.isEmpty_cons, beq_self_eq_true, Bool.false_eq_true, Nat.succ_ne_self, decide_true, decide_false, keepT_setT, keepT_lit]
  by_cases h17 : op = 17
  · subst h17
    have e : hx 17 = (2, 0, 0) := by decide
    rw [e]
    simp only [codeEv, opsEv, oneEv, guardEv, opEv, St.opd, look_set, look_cons, St.put, St.new, St.read, St.write, lookL, setL, cellsAt_cons, splice, argsT, resEv, bin_ieq, in_int, in_loc, List.contains_cons, List.contains_nil, one_int, cells_int, loc_agg, cells_agg, fillEv, keepL, List.append_nil, List.map, List.length, List.take, List.drop, List.all, List.cons_append, List.nil_append, List.take_succ_cons, List.drop_succ_cons, List.length_cons, Option.map_some, Nat.reduceEqDiff, Int.reduceEq, Nat.reduceAdd, Nat.reduceLeDiff, Nat.reduceLT, if_true, if_false, Bool.and_true, Bool.or_false, Bool.not_false, List.isEmpty_cons, beq_self_eq_true, Bool.false_eq_true, Nat.succ_ne_self, decide_true, decide_false, keepT_setT, keepT_lit]
  by_cases h23 : op = 23
  · subst h23
    have e : hx 23 = (2, 0, 0) := by decide
    rw [e]
    simp only [codeEv, opsEv, oneEv, guardEv, opEv, St.opd, look_set, look_cons, St.put, St.new, St.read, St.write, lookL, setL, cellsAt_cons, splice, argsT, resEv, bin_ieq, in_int, in_loc, List.contains_cons, List.contains_nil, one_int, cells_int, loc_agg, cells_agg, fillEv, keepL, List.append_nil, List.map, List.length, List.take, List.drop, List.all, List.cons_append, List.nil_append, List.take_succ_cons, List.drop_succ_cons, List.length_cons, Option.map_some, Nat.reduceEqDiff, Int.reduceEq, Nat.reduceAdd, Nat.reduceLeDiff, Nat.reduceLT, if_true, if_false, Bool.and_true, Bool.or_false, Bool.not_false, List.isEmpty_cons, beq_self_eq_true, Bool.false_eq_true, Nat.succ_ne_self, decide_true, decide_false, keepT_setT, keepT_lit]
  by_cases h24 : op = 24
  · subst h24
    have e : hx 24 = (2, 0, 0) := by decide
    rw [e]
    simp only [codeEv, opsEv, oneEv, guardEv, opEv, St.opd, look_set, look_cons, St.put, St.new, St.read, St.write, lookL, setL, cellsAt_cons, splice, argsT, resEv, bin_ieq, in_int, in_loc, List.contains_cons, List.contains_nil, one_int, cells_int, loc_agg, cells_agg, fillEv, keepL, List.append_nil, List.map, List.length, List.take, List.drop, List.all, List.cons_append, List.nil_append, List.take_succ_cons, List.drop_succ_cons, List.length_cons, Option.map_some, Nat.reduceEqDiff, Int.reduceEq, Nat.reduceAdd, Nat.reduceLeDiff, Nat.reduceLT, if_true, if_false, Bool.and_true, Bool.or_false, Bool.not_false, List.isEmpty_cons, beq_self_eq_true, Bool.false_eq_true, Nat.succ_ne_self, decide_true, decide_false, keepT_setT, keepT_lit]
  by_cases h5 : op = 5
  · subst h5
    have e : hx 5 = (2, 4, 0) := by decide
    rw [e]
    simp only [codeEv, opsEv, oneEv, guardEv, opEv, St.opd, look_set, look_cons, St.put, St.new, St.read, St.write, lookL, setL, cellsAt_cons, splice, argsT, resEv, bin_ieq, in_int, in_loc, List.contains_cons, List.contains_nil, one_int, cells_int, loc_agg, cells_agg, fillEv, keepL, List.append_nil, List.map, List.length, List.take, List.drop, List.all, List.cons_append, List.nil_append, List.take_succ_cons, List.drop_succ_cons, List.length_cons, Option.map_some, Nat.reduceEqDiff, Int.reduceEq, Nat.reduceAdd, Nat.reduceLeDiff, Nat.reduceLT, if_true, if_false, Bool.and_true, Bool.or_false, Bool.not_false, List.isEmpty_cons, beq_self_eq_true, Bool.false_eq_true, Nat.succ_ne_self, decide_true, decide_false, keepT_setT, keepT_lit]
  by_cases h9 : op = 9
  · subst h9
    have e : hx 9 = (2, 4, 0) := by decide
    rw [e]
    simp only [codeEv, opsEv, oneEv, guardEv, opEv, St.opd, look_set, look_cons, St.put, St.new, St.read, St.write, lookL, setL, cellsAt_cons, splice, argsT, resEv, bin_ieq, in_int, in_loc, List.contains_cons, List.contains_nil, one_int, cells_int, loc_agg, cells_agg, fillEv, keepL, List.append_nil, List.map, List.length, List.take, List.drop, List.all, List.cons_append, List.nil_append, List.take_succ_cons, List.drop_succ_cons, List.length_cons, Option.map_some, Nat.reduceEqDiff, Int.reduceEq, Nat.reduceAdd, Nat.reduceLeDiff, Nat.reduceLT, if_true, if_false, Bool.and_true, Bool.or_false, Bool.not_false, List.isEmpty_cons, beq_self_eq_true, Bool.false_eq_true, Nat.succ_ne_self, decide_true, decide_false, keepT_setT, keepT_lit]
  by_cases h6 : op = 6
  · subst h6
    have e : hx 6 = (2, 3, 0) := by decide
    rw [e]
    simp only [codeEv, opsEv, oneEv, guardEv, opEv, St.opd, look_set, look_cons, St.put, St.new, St.read, St.write, lookL, setL, cellsAt_cons, splice, argsT, resEv, bin_ieq, in_int, in_loc, List.contains_cons, List.contains_nil, one_int, cells_int, loc_agg, cells_agg, fillEv, keepL, List.append_nil, List.map, List.length, List.take, List.drop, List.all, List.cons_append, List.nil_append, List.take_succ_cons, List.drop_succ_cons, List.length_cons, Option.map_some, Nat.reduceEqDiff, Int.reduceEq, Nat.reduceAdd, Nat.reduceLeDiff, Nat.reduceLT, if_true, if_false, Bool.and_true, Bool.or_false, Bool.not_false, List.isEmpty_cons, beq_self_eq_true, Bool.false_eq_true, Nat.succ_ne_self, decide_true, decide_false, keepT_setT, keepT_lit]
  by_cases h7 : op = 7
  · subst h7
    have e : hx 7 = (2, 3, 4) := by decide
    rw [e]
    simp only [codeEv, opsEv, oneEv, guardEv, opEv, St.opd, look_set, look_cons, St.put, St.new, St.read, St.write, lookL, setL, cellsAt_cons, splice, argsT, resEv, bin_ieq, in_int, in_loc, List.contains_cons, List.contains_nil, one_int, cells_int, loc_agg, cells_agg, fillEv, keepL, List.append_nil, List.map, List.length, List.take, List.drop, List.all, List.cons_append, List.nil_append, List.take_succ_cons, List.drop_succ_cons, List.length_cons, Option.map_some, Nat.reduceEqDiff, Int.reduceEq, Nat.reduceAdd, Nat.reduceLeDiff, Nat.reduceLT, if_true, if_false, Bool.and_true, Bool.or_false, Bool.not_false, List.isEmpty_cons, beq_self_eq_true, Bool.false_eq_true, Nat.succ_ne_self, decide_true, decide_false, keepT_setT, keepT_lit]
  by_cases h12 : op = 12
  · subst h12
    have e : hx 12 = (5, 0, 0) := by decide
    rw [e]
    simp only [codeEv, opsEv, oneEv, guardEv, opEv, St.opd, look_set, look_cons, St.put, St.new, St.read, St.write, lookL, setL, cellsAt_cons, splice, argsT, resEv, bin_ieq, in_int, in_loc, List.contains_cons, List.contains_nil, one_int, cells_int, loc_agg, cells_agg, fillEv, keepL, List.append_nil, List.map, List.length, List.take, List.drop, List.all, List.cons_append, List.nil_append, List.take_succ_cons, List.drop_succ_cons, List.length_cons, Option.map_some, Nat.reduceEqDiff, Int.reduceEq, Nat.reduceAdd, Nat.reduceLeDiff, Nat.reduceLT, if_true, if_false, Bool.and_true, Bool.or_false, Bool.not_false, List.isEmpty_cons, beq_self_eq_true, Bool.false_eq_true, Nat.succ_ne_self, decide_true, decide_false, keepT_setT, keepT_lit]
  by_cases h13 : op = 13
  · subst h13
    have e : hx 13 = (6, 0, 0) := by decide
    rw [e]
    simp only [codeEv, opsEv, oneEv, guardEv, opEv, St.opd, look_set, look_cons, St.put, St.new, St.read, St.write, lookL, setL, cellsAt_cons, splice, argsT, resEv, bin_ieq, in_int, in_loc, List.contains_cons, List.contains_nil, one_int, cells_int, loc_agg, cells_agg, fillEv, keepL, List.append_nil, List.map, List.length, List.take, List.drop, List.all, List.cons_append, List.nil_append, List.take_succ_cons, List.drop_succ_cons, List.length_cons, Option.map_some, Nat.reduceEqDiff, Int.reduceEq, Nat.reduceAdd, Nat.reduceLeDiff, Nat.reduceLT, if_true, if_false, Bool.and_true, Bool.or_false, Bool.not_false, List.isEmpty_cons, beq_self_eq_true, Bool.false_eq_true, Nat.succ_ne_self, decide_true, decide_false, keepT_setT, keepT_lit]
  by_cases h14 : op = 14
  · subst h14
    have e : hx 14 = (4, 0, 0) := by decide
    rw [e]
    simp only [codeEv, opsEv, oneEv, guardEv, opEv, St.opd, look_set, look_cons, St.put, St.new, St.read, St.write, lookL, setL, cellsAt_cons, splice, argsT, resEv, bin_ieq, in_int, in_loc, List.contains_cons, List.contains_nil, one_int, cells_int, loc_agg, cells_agg, fillEv, keepL, List.append_nil, List.map, List.length, List.take, List.drop, List.all, List.cons_append, List.nil_append, List.take_succ_cons, List.drop_succ_cons, List.length_cons, Option.map_some, Nat.reduceEqDiff, Int.reduceEq, Nat.reduceAdd, Nat.reduceLeDiff, Nat.reduceLT, if_true, if_false, Bool.and_true, Bool.or_false, Bool.not_false, List.isEmpty_cons, beq_self_eq_true, Bool.false_eq_true, Nat.succ_ne_self, decide_true, decide_false, keepT_setT, keepT_lit]
  by_cases h19 : op = 19
  · subst h19
    have e : hx 19 = (7, 0, 0) := by decide
    rw [e]
    simp only [codeEv, opsEv, oneEv, guardEv, opEv, St.opd, look_set, look_cons, St.put, St.new, St.read, St.write, lookL, setL, cellsAt_cons, splice, argsT, resEv, bin_ieq, in_int, in_loc, List.contains_cons, List.contains_nil, one_int, cells_int, loc_agg, cells_agg, fillEv, keepL, List.append_nil, List.map, List.length, List.take, List.drop, List.all, List.cons_append, List.nil_append, List.take_succ_cons, List.drop_succ_cons, List.length_cons, Option.map_some, Nat.reduceEqDiff, Int.reduceEq, Nat.reduceAdd, Nat.reduceLeDiff, Nat.reduceLT, if_true, if_false, Bool.and_true, Bool.or_false, Bool.not_false, List.isEmpty_cons, beq_self_eq_true, Bool.false_eq_true, Nat.succ_ne_self, decide_true, decide_false, keepT_setT, keepT_lit]
  by_cases h20 : op = 20
  · subst h20
    have e : hx 20 = (7, 0, 0) := by decide
    rw [e]
    simp only [codeEv, opsEv, oneEv, guardEv, opEv, St.opd, look_set, look_cons, St.put, St.new, St.read, St.write, lookL, setL, cellsAt_cons, splice, argsT, resEv, bin_ieq, in_int, in_loc, List.contains_cons, List.contains_nil, one_int, cells_int, loc_agg, cells_agg, fillEv, keepL, List.append_nil, List.map, List.length, List.take, List.drop, List.all, List.cons_append, List.nil_append, List.take_succ_cons, List.drop_succ_cons, List.length_cons, Option.map_some, Nat.reduceEqDiff, Int.reduceEq, Nat.reduceAdd, Nat.reduceLeDiff, Nat.reduceLT, if_true, if_false, Bool.and_true, Bool.or_false, Bool.not_false, List.isEmpty_cons, beq_self_eq_true, Bool.false_eq_true, Nat.succ_ne_self, decide_true, decide_false, keepT_setT, keepT_lit]
  by_cases h21 : op = 21
  · subst h21
    have e : hx 21 = (8, 0, 0) := by decide
    rw [e]
    simp only [codeEv, opsEv, oneEv, guardEv, opEv, St.opd, look_set, look_cons, St.put, St.new, St.read, St.write, lookL, setL, cellsAt_cons, splice, argsT, resEv, bin_ieq, in_int, in_loc, List.contains_cons, List.contains_nil, one_int, cells_int, loc_agg, cells_agg, fillEv, keepL, List.append_nil, List.map, List.length, List.take, List.drop, List.all, List.cons_append, List.nil_append, List.take_succ_cons, List.drop_succ_cons, List.length_cons, Option.map_some, Nat.reduceEqDiff, Int.reduceEq, Nat.reduceAdd, Nat.reduceLeDiff, Nat.reduceLT, if_true, if_false, Bool.and_true, Bool.or_false, Bool.not_false, List.isEmpty_cons, beq_self_eq_true, Bool.false_eq_true, Nat.succ_ne_self, decide_true, decide_false, keepT_setT, keepT_lit]
  have e : hx op = (0, 0, 0) := by
    unfold hx
    simp only [h2, h4, h8, h10, h11, h15, h16, h17, h23, h24, h5, h9, h6, h7, h12, h13, h14, h19, h20, h21, if_false]
  rw [e]
  simp only [codeEv, opsEv, oneEv, guardEv, opEv, St.opd, look_set, look_cons, St.put, St.new, St.read, St.write, lookL, setL, cellsAt_cons, splice, argsT, resEv, bin_ieq, in_int, in_loc, List.contains_cons, List.contains_nil, one_int, cells_int, loc_agg, cells_agg, fillEv, keepL, List.append_nil, List.map, List.length, List.take, List.drop, List.all, List.cons_append, List.nil_append, List.take_succ_cons, List.drop_succ_cons, List.length_cons, Option.map_some, Nat.reduceEqDiff, Nat.reduceAdd, Nat.reduceLeDiff, Nat.reduceLT, if_true, if_false, Bool.and_true, Bool.or_false, Bool.not_false, List.isEmpty_cons, beq_self_eq_true, Bool.false_eq_true, Nat.succ_ne_self, decide_false, keepT_setT, keepT_lit, h2, h4, h8, h10, h11, h15, h16, h17, h23, h24, h5, h9, h6, h7, h12, h13, h14, h19, h20, h21]

def mayI (w x : Int) : Bool :=
  if w = 1 then decide (0 ≤ x) && decide (x < 4294967296) else if w = 2 then decide (0 ≤ x) && decide (x ≤ 1048576) else if w = 3 then decide (1 ≤ x) && decide (x ≤ 1048576)
  else if w = 4 then decide (x = 8) || (decide (x = 16) || decide (x = 32)) else if w = 5 then decide (1 ≤ x) && decide (x ≤ 19) else if w = 6 then decide (1 ≤ x) && decide (x ≤ 3)
  else if w = 7 then decide (0 ≤ x) && decide (x ≤ 31) else if w = 8 then decide (0 ≤ x) && decide (x ≤ 15) else decide (x = 0)
theorem may_ex (N : Nat) (hN : 2 ≤ N) (w x : Int) (m : Mem) (hmn : m.n + 1 ≤ 2 ^ depth) : ∃ m', run A N 57 [.int .i64 w, .int .i64 x] m = some (.bool (mayI w x), m') ∧ Ext m m' ∧ m'.n ≤ m.n + 1 := by
  obtain ⟨n, rfl⟩ : ∃ n, N = n + 1 := ⟨N - 1, by omega⟩
  rw [run_57]
  obtain ⟨s1, m1, c1, e1, x1, n1⟩ := rsign_ex n (by omega) x m hmn
  obtain ⟨s2, m2, c2, e2, x2, n2⟩ := rname_ex n (by omega) x m hmn
  unfold isNo at e1 e2
  unfold fnEv a57 mayI
  by_cases h1 : w = 1
  · refine ⟨m, ?_, Ext.refl m, by omega⟩
    · by_cases q1 : 0 ≤ x
      · by_cases q2 : x < 4294967296
        · simp only [codeEv, opsEv, oneEv, guardEv, opE_mov, opE_pick, opE_bin, opE_call, St.opd, look_set, look_cons, St.put, argsT, resEv, bin_ilt, bin_ile, bin_ige, bin_ieq, in_int, loc_int, loc_bool, callWith, keepL, List.map, List.length, List.any, Option.map_some, Nat.reduceEqDiff, Int.reduceEq, Nat.reduceAdd, Nat.reduceLT, if_true, if_false, Bool.and_true, Bool.true_and, Bool.or_false, beq_self_eq_true, Bool.false_eq_true, Nat.succ_ne_self, decide_true, decide_false, keepT_setT, keepT_lit, h1, q1, q2]
        · simp only [codeEv, opsEv, oneEv, guardEv, opE_mov, opE_pick, opE_bin, opE_call, St.opd, look_set, look_cons, St.put, argsT, resEv, bin_ilt, bin_ile, bin_ige, bin_ieq, in_int, loc_int, loc_bool, callWith, keepL, List.map, List.length, List.any, Option.map_some, Nat.reduceEqDiff, Int.reduceEq, Nat.reduceAdd, Nat.reduceLT, if_true, if_false, Bool.true_and, Bool.and_false, Bool.or_false, beq_self_eq_true, Bool.false_eq_true, Nat.succ_ne_self, decide_true, decide_false, keepT_setT, keepT_lit, h1, q1, q2]
      · simp only [codeEv, opsEv, oneEv, guardEv, opE_mov, opE_pick, opE_bin, opE_call, St.opd, look_set, look_cons, St.put, argsT, resEv, bin_ige, bin_ieq, in_int, loc_int, loc_bool, callWith, keepL, List.map, List.length, List.any, Option.map_some, Nat.reduceEqDiff, Int.reduceEq, Nat.reduceAdd, Nat.reduceLT, if_true, if_false, Bool.false_and, Bool.or_false, Bool.false_eq_true, Nat.succ_ne_self, decide_true, decide_false, beq_ft, keepT_setT, keepT_lit, h1, q1]
  by_cases h2 : w = 2
  · refine ⟨m, ?_, Ext.refl m, by omega⟩
    · by_cases q1 : 0 ≤ x
      · by_cases q2 : x ≤ 1048576
        · simp only [codeEv, opsEv, oneEv, guardEv, opE_mov, opE_pick, opE_bin, opE_call, St.opd, look_set, look_cons, St.put, argsT, resEv, bin_ilt, bin_ile, bin_ige, bin_ieq, in_int, loc_int, loc_bool, callWith, keepL, List.map, List.length, List.any, Option.map_some, Nat.reduceEqDiff, Int.reduceEq, Nat.reduceAdd, Nat.reduceLT, if_true, if_false, Bool.and_true, Bool.true_and, Bool.or_false, beq_self_eq_true, Bool.false_eq_true, Nat.succ_ne_self, decide_true, decide_false, keepT_setT, keepT_lit, h2, q1, q2]
        · simp only [codeEv, opsEv, oneEv, guardEv, opE_mov, opE_pick, opE_bin, opE_call, St.opd, look_set, look_cons, St.put, argsT, resEv, bin_ilt, bin_ile, bin_ige, bin_ieq, in_int, loc_int, loc_bool, callWith, keepL, List.map, List.length, List.any, Option.map_some, Nat.reduceEqDiff, Int.reduceEq, Nat.reduceAdd, Nat.reduceLT, if_true, if_false, Bool.true_and, Bool.and_false, Bool.or_false, beq_self_eq_true, Bool.false_eq_true, Nat.succ_ne_self, decide_true, decide_false, keepT_setT, keepT_lit, h2, q1, q2]
      · simp only [codeEv, opsEv, oneEv, guardEv, opE_mov, opE_pick, opE_bin, opE_call, St.opd, look_set, look_cons, St.put, argsT, resEv, bin_ige, bin_ieq, in_int, loc_int, loc_bool, callWith, keepL, List.map, List.length, List.any, Option.map_some, Nat.reduceEqDiff, Int.reduceEq, Nat.reduceAdd, Nat.reduceLT, if_true, if_false, Bool.false_and, Bool.or_false, Bool.false_eq_true, Nat.succ_ne_self, decide_true, decide_false, beq_ft, keepT_setT, keepT_lit, h2, q1]
  by_cases h3 : w = 3
  · refine ⟨m, ?_, Ext.refl m, by omega⟩
    · by_cases q1 : 1 ≤ x
      · by_cases q2 : x ≤ 1048576
        · simp only [codeEv, opsEv, oneEv, guardEv, opE_mov, opE_pick, opE_bin, opE_call, St.opd, look_set, look_cons, St.put, argsT, resEv, bin_ile, bin_ige, bin_ieq, in_int, loc_int, loc_bool, callWith, keepL, List.map, List.length, List.any, Option.map_some, Nat.reduceEqDiff, Int.reduceEq, Nat.reduceAdd, Nat.reduceLT, if_true, if_false, Bool.and_true, Bool.true_and, Bool.or_false, beq_self_eq_true, Bool.false_eq_true, Nat.succ_ne_self, decide_true, decide_false, keepT_setT, keepT_lit, h3, q1, q2]
        · simp only [codeEv, opsEv, oneEv, guardEv, opE_mov, opE_pick, opE_bin, opE_call, St.opd, look_set, look_cons, St.put, argsT, resEv, bin_ile, bin_ige, bin_ieq, in_int, loc_int, loc_bool, callWith, keepL, List.map, List.length, List.any, Option.map_some, Nat.reduceEqDiff, Int.reduceEq, Nat.reduceAdd, Nat.reduceLT, if_true, if_false, Bool.true_and, Bool.and_false, Bool.or_false, beq_self_eq_true, Bool.false_eq_true, Nat.succ_ne_self, decide_true, decide_false, keepT_setT, keepT_lit, h3, q1, q2]
      · simp only [codeEv, opsEv, oneEv, guardEv, opE_mov, opE_pick, opE_bin, opE_call, St.opd, look_set, look_cons, St.put, argsT, resEv, bin_ige, bin_ieq, in_int, loc_int, loc_bool, callWith, keepL, List.map, List.length, List.any, Option.map_some, Nat.reduceEqDiff, Int.reduceEq, Nat.reduceAdd, Nat.reduceLT, if_true, if_false, Bool.false_and, Bool.or_false, Bool.false_eq_true, Nat.succ_ne_self, decide_true, decide_false, beq_ft, keepT_setT, keepT_lit, h3, q1]
  by_cases h4 : w = 4
  · refine ⟨m, ?_, Ext.refl m, by omega⟩
    by_cases q1 : x = 8
    · have q1 := eq_true q1
      simp only [codeEv, opsEv, oneEv, guardEv, opE_mov, opE_pick, opE_bin, opE_call, St.opd, look_set, look_cons, St.put, argsT, resEv, bin_ige, bin_ieq, in_int, loc_int, loc_bool, callWith, keepL, List.map, List.length, List.any, Option.map_some, Nat.reduceEqDiff, Int.reduceEq, Nat.reduceAdd, Nat.reduceLT, if_true, if_false, Bool.or_false, Bool.true_or, Bool.false_eq_true, Nat.succ_ne_self, decide_true, decide_false, beq_tf, keepT_setT, keepT_lit, h4, q1]
    · by_cases q2 : x = 16
      · have q2 := eq_true q2
        simp only [codeEv, opsEv, oneEv, guardEv, opE_mov, opE_pick, opE_bin, opE_call, St.opd, look_set, look_cons, St.put, argsT, resEv, bin_ige, bin_ieq, in_int, loc_int, loc_bool, callWith, keepL, List.map, List.length, List.any, Option.map_some, Nat.reduceEqDiff, Int.reduceEq, Nat.reduceAdd, Nat.reduceLT, if_true, if_false, Bool.or_true, Bool.or_false, Bool.true_or, beq_self_eq_true, Bool.false_eq_true, Nat.succ_ne_self, decide_true, decide_false, beq_tf, keepT_setT, keepT_lit, h4, q1, q2]
      · by_cases q3 : x = 32
        · have q3 := eq_true q3
          simp only [codeEv, opsEv, oneEv, guardEv, opE_mov, opE_pick, opE_bin, opE_call, St.opd, look_set, look_cons, St.put, argsT, resEv, bin_ige, bin_ieq, in_int, loc_int, loc_bool, callWith, keepL, List.map, List.length, List.any, Option.map_some, Nat.reduceEqDiff, Int.reduceEq, Nat.reduceAdd, Nat.reduceLT, if_true, if_false, Bool.or_true, Bool.or_false, beq_self_eq_true, Bool.false_eq_true, Nat.succ_ne_self, decide_true, decide_false, keepT_setT, keepT_lit, h4, q1, q2, q3]
        · simp only [codeEv, opsEv, oneEv, guardEv, opE_mov, opE_pick, opE_bin, opE_call, St.opd, look_set, look_cons, St.put, argsT, resEv, bin_ige, bin_ieq, in_int, loc_int, loc_bool, callWith, keepL, List.map, List.length, List.any, Option.map_some, Nat.reduceEqDiff, Int.reduceEq, Nat.reduceAdd, Nat.reduceLT, if_true, if_false, Bool.or_false, beq_self_eq_true, Bool.false_eq_true, Nat.succ_ne_self, decide_true, decide_false, keepT_setT, keepT_lit, h4, q1, q2, q3]
  by_cases h5 : w = 5
  · exact ⟨m1, by simp only [codeEv, opsEv, oneEv, guardEv, opE_mov, opE_pick, opE_bin, opE_call, St.opd, look_set, look_cons, St.put, argsT, resEv, bin_ige, bin_ieq, in_int, loc_int, loc_bool, callWith, keepL, List.map, List.length, List.any, Option.map_some, Nat.reduceEqDiff, Int.reduceEq, Nat.reduceAdd, Nat.reduceLT, if_true, if_false, Bool.or_false, Bool.false_eq_true, Nat.succ_ne_self, decide_true, decide_false, keepT_setT, keepT_lit, h5, c1, str_ne, e1, Bool.not_not], x1, n1⟩
  by_cases h6 : w = 6
  · exact ⟨m2, by simp only [codeEv, opsEv, oneEv, guardEv, opE_mov, opE_pick, opE_bin, opE_call, St.opd, look_set, look_cons, St.put, argsT, resEv, bin_ige, bin_ieq, in_int, loc_int, loc_bool, callWith, keepL, List.map, List.length, List.any, Option.map_some, Nat.reduceEqDiff, Int.reduceEq, Nat.reduceAdd, Nat.reduceLT, if_true, if_false, Bool.or_false, Bool.false_eq_true, Nat.succ_ne_self, decide_true, decide_false, keepT_setT, keepT_lit, h6, c2, str_ne, e2, Bool.not_not], x2, n2⟩
  by_cases h7 : w = 7
  · refine ⟨m, ?_, Ext.refl m, by omega⟩
    · by_cases q1 : 0 ≤ x
      · by_cases q2 : x ≤ 31
        · simp only [codeEv, opsEv, oneEv, guardEv, opE_mov, opE_pick, opE_bin, opE_call, St.opd, look_set, look_cons, St.put, argsT, resEv, bin_ilt, bin_ile, bin_ige, bin_ieq, in_int, loc_int, loc_bool, callWith, keepL, List.map, List.length, List.any, Option.map_some, Nat.reduceEqDiff, Int.reduceEq, Nat.reduceAdd, Nat.reduceLT, if_true, if_false, Bool.and_true, Bool.true_and, Bool.or_false, beq_self_eq_true, Bool.false_eq_true, Nat.succ_ne_self, decide_true, decide_false, keepT_setT, keepT_lit, h7, q1, q2]
        · simp only [codeEv, opsEv, oneEv, guardEv, opE_mov, opE_pick, opE_bin, opE_call, St.opd, look_set, look_cons, St.put, argsT, resEv, bin_ilt, bin_ile, bin_ige, bin_ieq, in_int, loc_int, loc_bool, callWith, keepL, List.map, List.length, List.any, Option.map_some, Nat.reduceEqDiff, Int.reduceEq, Nat.reduceAdd, Nat.reduceLT, if_true, if_false, Bool.true_and, Bool.and_false, Bool.or_false, beq_self_eq_true, Bool.false_eq_true, Nat.succ_ne_self, decide_true, decide_false, keepT_setT, keepT_lit, h7, q1, q2]
      · simp only [codeEv, opsEv, oneEv, guardEv, opE_mov, opE_pick, opE_bin, opE_call, St.opd, look_set, look_cons, St.put, argsT, resEv, bin_ige, bin_ieq, in_int, loc_int, loc_bool, callWith, keepL, List.map, List.length, List.any, Option.map_some, Nat.reduceEqDiff, Int.reduceEq, Nat.reduceAdd, Nat.reduceLT, if_true, if_false, Bool.false_and, Bool.or_false, Bool.false_eq_true, Nat.succ_ne_self, decide_true, decide_false, beq_ft, keepT_setT, keepT_lit, h7, q1]
  by_cases h8 : w = 8
  · refine ⟨m, ?_, Ext.refl m, by omega⟩
    · by_cases q1 : 0 ≤ x
      · by_cases q2 : x ≤ 15
        · simp only [codeEv, opsEv, oneEv, guardEv, opE_mov, opE_pick, opE_bin, opE_call, St.opd, look_set, look_cons, St.put, argsT, resEv, bin_ilt, bin_ile, bin_ige, bin_ieq, in_int, loc_int, loc_bool, callWith, keepL, List.map, List.length, List.any, Option.map_some, Nat.reduceEqDiff, Int.reduceEq, Nat.reduceAdd, Nat.reduceLT, if_true, if_false, Bool.and_true, Bool.true_and, Bool.or_false, beq_self_eq_true, Bool.false_eq_true, Nat.succ_ne_self, decide_true, decide_false, keepT_setT, keepT_lit, h8, q1, q2]
        · simp only [codeEv, opsEv, oneEv, guardEv, opE_mov, opE_pick, opE_bin, opE_call, St.opd, look_set, look_cons, St.put, argsT, resEv, bin_ilt, bin_ile, bin_ige, bin_ieq, in_int, loc_int, loc_bool, callWith, keepL, List.map, List.length, List.any, Option.map_some, Nat.reduceEqDiff, Int.reduceEq, Nat.reduceAdd, Nat.reduceLT, if_true, if_false, Bool.true_and, Bool.and_false, Bool.or_false, beq_self_eq_true, Bool.false_eq_true, Nat.succ_ne_self, decide_true, decide_false, keepT_setT, keepT_lit, h8, q1, q2]
      · simp only [codeEv, opsEv, oneEv, guardEv, opE_mov, opE_pick, opE_bin, opE_call, St.opd, look_set, look_cons, St.put, argsT, resEv, bin_ige, bin_ieq, in_int, loc_int, loc_bool, callWith, keepL, List.map, List.length, List.any, Option.map_some, Nat.reduceEqDiff, Int.reduceEq, Nat.reduceAdd, Nat.reduceLT, if_true, if_false, Bool.false_and, Bool.or_false, Bool.false_eq_true, Nat.succ_ne_self, decide_true, decide_false, beq_ft, keepT_setT, keepT_lit, h8, q1]
  refine ⟨m, ?_, Ext.refl m, by omega⟩
  by_cases q : x = 0
  · have q := eq_true q
    simp only [codeEv, opsEv, oneEv, guardEv, opE_mov, opE_pick, opE_bin, opE_call, St.opd, look_set, look_cons, St.put, argsT, resEv, bin_ige, bin_ieq, in_int, loc_int, loc_bool, callWith, keepL, List.map, List.length, List.any, Option.map_some, Nat.reduceEqDiff, Nat.reduceAdd, Nat.reduceLT, if_true, if_false, Bool.or_false, Bool.false_eq_true, Nat.succ_ne_self, decide_true, decide_false, keepT_setT, keepT_lit, h1, h2, h3, h4, h5, h6, h7, h8, q]
  · simp only [codeEv, opsEv, oneEv, guardEv, opE_mov, opE_pick, opE_bin, opE_call, St.opd, look_set, look_cons, St.put, argsT, resEv, bin_ige, bin_ieq, in_int, loc_int, loc_bool, callWith, keepL, List.map, List.length, List.any, Option.map_some, Nat.reduceEqDiff, Nat.reduceAdd, Nat.reduceLT, if_true, if_false, Bool.or_false, Bool.false_eq_true, Nat.succ_ne_self, decide_false, keepT_setT, keepT_lit, h1, h2, h3, h4, h5, h6, h7, h8, q]

def refOk (op a b c : Int) : Bool := decide (1 ≤ op) && (decide (op < 25) && (mayI (hx op).1 a && (mayI (hx op).2.1 b && mayI (hx op).2.2 c)))
def cv (w : Int) : Int := if w = 1 then 2 else if w = 2 then 1 else if w = 3 then 4 else if w = 4 then 3 else if w = 5 then 7 else if w = 6 then 8 else if w = 7 then 5 else if w = 8 then 6 else 0
theorem fits_may (w x : Int) (h0 : 0 ≤ w) (h8 : w ≤ 8) : fitsI w x = mayI (cv w) x := by
  have h : w = 0 ∨ w = 1 ∨ w = 2 ∨ w = 3 ∨ w = 4 ∨ w = 5 ∨ w = 6 ∨ w = 7 ∨ w = 8 := by omega
  rcases h with rfl | rfl | rfl | rfl | rfl | rfl | rfl | rfl | rfl <;> simp [fitsI, mayI, cv]
  rw [Bool.eq_iff_iff]
  simp only [Bool.and_eq_true, decide_eq_true_eq]
  omega
theorem hx_kx : ∀ j : Nat, j < 25 → 1 ≤ j → hx (j : Int) = (cv (kx 1 j), cv (kx 2 j), cv (kx 3 j)) ∧ 0 ≤ kx 1 j ∧ kx 1 j ≤ 8 ∧ 0 ≤ kx 2 j ∧ kx 2 j ≤ 8 ∧ 0 ≤ kx 3 j ∧ kx 3 j ≤ 8 := by decide +kernel
theorem code_ref (op a b c : Int) : codeOk op a b c = refOk op a b c := by
  unfold codeOk refOk
  by_cases h1 : 1 ≤ op
  · by_cases h2 : op < 25
    · obtain ⟨e, b1, b2, b3, b4, b5, b6⟩ := hx_kx op.toNat (by omega) (by omega)
      have eo : ((op.toNat : Nat) : Int) = op := by omega
      rw [eo] at e
      rw [e, fits_may _ a b1 b2, fits_may _ b b3 b4, fits_may _ c b5 b6]
    · simp [h2]
  · simp [h1]

theorem c3 : ((3 : Nat) : Int) = 3 := rfl
theorem rcode_ex (N : Nat) (hN : 4 ≤ N) (op a b c : Int) (m : Mem) (hmn : m.n + 3 ≤ 2 ^ depth) : ∃ m', run A N 52 [insA op a b c] m = some (.int .i64 (if refOk op a b c then 0 else 2), m') ∧ Ext m m' ∧ m'.n ≤ m.n + 3 := by
  obtain ⟨n, rfl⟩ : ∃ n, N = n + 1 := ⟨N - 1, by omega⟩
  rw [run_52]
  have h := has_ex n (by omega) op m
  obtain ⟨m1, f1, x1, n1⟩ := may_ex n (by omega) (hx op).1 a m (by omega)
  obtain ⟨m2, f2, x2, n2⟩ := may_ex n (by omega) (hx op).2.1 b m1 (by omega)
  obtain ⟨m3, f3, x3, n3⟩ := may_ex n (by omega) (hx op).2.2 c m2 (by omega)
  unfold fnEv a52 insA refOk
  generalize (hx op).1 = w1 at *
  generalize (hx op).2.1 = w2 at *
  generalize (hx op).2.2 = w3 at *
  generalize mayI w1 a = b1 at *
  generalize mayI w2 b = b2 at *
  generalize mayI w3 c = b3 at *
  by_cases h1 : op < 1
  · have h1' : ¬ 1 ≤ op := by omega
    exact ⟨m, by simp only [codeEv, opsEv, oneEv, guardEv, opEv, St.opd, look_set, look_cons, St.put, St.new, St.read, St.write, lookL, setL, cellsAt_cons, splice, argsT, resEv, bin_ilt, in_agg, in_loc, List.contains_cons, List.contains_nil, one_int, loc_int, cells_agg, callWith, keepL, List.append_nil, List.map, List.length, List.take, List.drop, List.all, List.any, List.nil_append, List.take_succ_cons, List.drop_succ_cons, Option.map_some, Nat.reduceEqDiff, Nat.reduceAdd, Nat.reduceLeDiff, Nat.reduceLT, if_true, if_false, Bool.and_true, Bool.false_and, Bool.or_true, Bool.or_false, Bool.true_or, Bool.not_false, List.isEmpty_cons, beq_self_eq_true, Bool.false_eq_true, Nat.succ_ne_self, decide_true, decide_false, beq_tf, keepT_setT, keepT_lit, h, h1, h1'], Ext.refl m, by omega⟩
  have h1' : 1 ≤ op := by omega
  by_cases h2 : 24 < op
  · have h2' : ¬ op < 25 := by omega
    exact ⟨m, by simp only [codeEv, opsEv, oneEv, guardEv, opEv, St.opd, look_set, look_cons, St.put, St.new, St.read, St.write, lookL, setL, cellsAt_cons, splice, argsT, resEv, bin_ilt, bin_igt, in_agg, in_loc, List.contains_cons, List.contains_nil, one_int, loc_int, cells_agg, callWith, keepL, List.append_nil, List.map, List.length, List.take, List.drop, List.all, List.any, List.nil_append, List.take_succ_cons, List.drop_succ_cons, Option.map_some, Nat.reduceEqDiff, Nat.reduceAdd, Nat.reduceLeDiff, Nat.reduceLT, if_true, if_false, Bool.and_true, Bool.false_and, Bool.and_false, Bool.or_true, Bool.or_false, Bool.true_or, Bool.not_false, List.isEmpty_cons, beq_self_eq_true, Bool.false_eq_true, Nat.succ_ne_self, decide_true, decide_false, beq_tf, keepT_setT, keepT_lit, h, h1, h1', h2, h2'], Ext.refl m, by omega⟩
  have h2' : op < 25 := by omega
  cases b1
  · exact ⟨m1, by simp only [codeEv, opsEv, oneEv, guardEv, opEv, St.opd, look_set, look_cons, St.put, St.new, St.read, St.write, lookL, setL, cellsAt_cons, splice, argsT, resEv, bin_ilt, bin_igt, in_agg, in_loc, List.contains_cons, List.contains_nil, one_int, loc_int, cells_agg, unEv, callWith, keepL, List.append_nil, List.map, List.length, List.take, List.drop, List.all, List.any, List.nil_append, List.take_succ_cons, List.drop_succ_cons, Option.map_some, Nat.reduceEqDiff, Int.reduceLT, Int.reduceLE, Nat.reduceAdd, Nat.reduceLeDiff, Nat.reduceLT, Nat.reduceMul, if_true, if_false, Bool.and_true, Bool.false_and, Bool.and_false, Bool.or_true, Bool.or_false, Bool.true_or, Bool.not_false, List.isEmpty_cons, beq_self_eq_true, Bool.false_eq_true, Nat.succ_ne_self, decide_true, decide_false, beq_tf, keepT_setT, keepT_lit, c3, and_self, Int.reduceToNat, h, h1, h1', h2, h2', f1], x1, by omega⟩
  cases b2
  · exact ⟨m2, by simp only [codeEv, opsEv, oneEv, guardEv, opEv, St.opd, look_set, look_cons, St.put, St.new, St.read, St.write, lookL, setL, cellsAt_cons, splice, argsT, resEv, bin_ilt, bin_igt, in_agg, in_loc, List.contains_cons, List.contains_nil, one_int, loc_int, cells_agg, unEv, callWith, keepL, List.append_nil, List.map, List.length, List.take, List.drop, List.all, List.any, List.nil_append, List.take_succ_cons, List.drop_succ_cons, Option.map_some, Nat.reduceEqDiff, Int.reduceLT, Int.reduceLE, Nat.reduceAdd, Nat.reduceLeDiff, Nat.reduceLT, Nat.reduceMul, if_true, if_false, Bool.and_true, Bool.false_and, Bool.and_false, Bool.or_true, Bool.or_false, Bool.true_or, Bool.not_true, Bool.not_false, List.isEmpty_cons, beq_self_eq_true, Bool.false_eq_true, Nat.succ_ne_self, decide_true, decide_false, beq_tf, keepT_setT, keepT_lit, c3, and_self, Int.reduceToNat, h, h1, h1', h2, h2', f1, f2], x1.trans x2, by omega⟩
  cases b3
  · exact ⟨m3, by simp only [codeEv, opsEv, oneEv, guardEv, opEv, St.opd, look_set, look_cons, St.put, St.new, St.read, St.write, lookL, setL, cellsAt_cons, splice, argsT, resEv, bin_ilt, bin_igt, in_agg, in_loc, List.contains_cons, List.contains_nil, one_int, loc_int, cells_agg, unEv, callWith, keepL, List.append_nil, List.map, List.length, List.take, List.drop, List.all, List.any, List.nil_append, List.take_succ_cons, List.drop_succ_cons, Option.map_some, Nat.reduceEqDiff, Int.reduceLT, Int.reduceLE, Nat.reduceAdd, Nat.reduceLeDiff, Nat.reduceLT, Nat.reduceMul, if_true, if_false, Bool.and_true, Bool.and_false, Bool.or_true, Bool.or_false, Bool.true_or, Bool.not_true, Bool.not_false, List.isEmpty_cons, beq_self_eq_true, Bool.false_eq_true, Nat.succ_ne_self, decide_true, decide_false, keepT_setT, keepT_lit, c3, and_self, Int.reduceToNat, h, h1, h1', h2, h2', f1, f2, f3], (x1.trans x2).trans x3, by omega⟩
  · exact ⟨m3, by simp only [codeEv, opsEv, oneEv, guardEv, opEv, St.opd, look_set, look_cons, St.put, St.new, St.read, St.write, lookL, setL, cellsAt_cons, splice, argsT, resEv, bin_ilt, bin_igt, in_agg, in_loc, List.contains_cons, List.contains_nil, one_int, loc_int, cells_agg, unEv, callWith, keepL, List.append_nil, List.map, List.length, List.take, List.drop, List.all, List.any, List.nil_append, List.take_succ_cons, List.drop_succ_cons, Option.map_some, Nat.reduceEqDiff, Int.reduceLT, Int.reduceLE, Nat.reduceAdd, Nat.reduceLeDiff, Nat.reduceLT, Nat.reduceMul, if_true, if_false, Bool.and_true, Bool.or_true, Bool.or_false, Bool.true_or, Bool.not_true, Bool.not_false, List.isEmpty_cons, beq_self_eq_true, Bool.false_eq_true, Nat.succ_ne_self, decide_true, decide_false, keepT_setT, keepT_lit, c3, and_self, Int.reduceToNat, h, h1, h1', h2, h2', f1, f2, f3], (x1.trans x2).trans x3, by omega⟩

end AG
