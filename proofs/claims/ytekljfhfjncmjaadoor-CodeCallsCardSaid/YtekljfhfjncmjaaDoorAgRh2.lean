/- What the functions of instructions and their texts compute, and the laws of that. -/
import Derived.Test.YtekljfhfjncmjaaDoorAgRh1
namespace AG
open Go Go.Proofs.YtekljfhfjncmjaaDoor
set_option maxRecDepth 100000
set_option maxHeartbeats 4000000
theorem reff_bad (n : Nat) {op a b c : Int} (m m1 : Mem) (v : AV) (l : List Int) (hv : RS iC 1 m v l) (c1 : run A n 21 [.agg [.int .i64 op, .int .i64 a, .int .i64 b, .int .i64 c]] m = some (.int .i64 2, m1)) : run A (n + 1) 18 [.agg [.int .i64 op, .int .i64 a, .int .i64 b, .int .i64 c], v] m = some (.tup [.int .i64 0, .int .i64 0, .bool false], m1) := by
  obtain ⟨p1, p2, p3, p4⟩ := hv.plain
  rw [run_18]
  unfold fnEv a18
  simp only [codeEv, opsEv, oneEv, guardEv, opE_mov, opE_box, opE_loadk, opE_bin, opE_call, St.opd, look_set, look_nil, look_cons, St.put, St.new, St.read, lookL_nil, lookL_cons, setL_nil, cellsAt_cons, argsT, resEv, bin_ine, in_agg, in_loc, List.contains_cons, List.contains_nil, loc_int, loc_bool, loc_agg, cells_agg, callWith, keepL, List.map, List.length, List.take, List.drop, List.any, List.take_succ_cons, Option.map_some, Nat.reduceEqDiff, Int.reduceEq, Nat.reduceAdd, Nat.reduceLeDiff, Nat.reduceLT, if_true, if_false, Bool.or_false, Bool.not_false, beq_self_eq_true, Bool.false_eq_true, Nat.succ_ne_self, decide_false, keepT_setT, keepT_lit, List.take_succ_cons, c1, p1]
theorem reff_1 (n : Nat) {a b c : Int} (m m1 : Mem) (v : AV) (l : List Int) (hv : RS iC 1 m v l) (c1 : run A n 21 [.agg [.int .i64 1, .int .i64 a, .int .i64 b, .int .i64 c]] m = some (.int .i64 0, m1)) : run A (n + 1) 18 [.agg [.int .i64 1, .int .i64 a, .int .i64 b, .int .i64 c], v] m = some (.tup [.int .i64 0, .int .i64 0, .bool true], m1) := by
  obtain ⟨p1, p2, p3, p4⟩ := hv.plain
  rw [run_18]
  unfold fnEv a18
  simp only [codeEv, opsEv, oneEv, guardEv, opE_mov, opE_box, opE_load1, opE_loadk, opE_bin, opE_faddr, opE_iaddrL, opE_call, opE_lenL, St.opd, look_set, look_nil, look_cons, St.put, St.new, St.read, lookL_nil, lookL_cons, setL_nil, cellsAt_cons, argsT, resEv, bin_ieq, bin_ine, in_int, in_agg, in_loc, List.contains_cons, List.contains_nil, loc_int, loc_bool, loc_agg, cells_agg, callWith, keepL, List.map, List.length, List.take, List.drop, List.any, List.take_succ_cons, Option.map_some, Nat.reduceEqDiff, Int.reduceEq, Nat.reduceAdd, Nat.reduceLeDiff, Nat.reduceLT, if_true, if_false, Bool.or_false, Bool.not_true, beq_self_eq_true, Bool.false_eq_true, Nat.succ_ne_self, decide_true, decide_false, keepT_setT, keepT_lit, List.take_succ_cons, c1, p1]
theorem reff_2 (n : Nat) {a b c : Int} (m m1 : Mem) (v : AV) (l : List Int) (hv : RS iC 1 m v l) (c1 : run A n 21 [.agg [.int .i64 2, .int .i64 a, .int .i64 b, .int .i64 c]] m = some (.int .i64 0, m1)) : run A (n + 1) 18 [.agg [.int .i64 2, .int .i64 a, .int .i64 b, .int .i64 c], v] m = some (.tup [.int .i64 0, .int .i64 1, .bool true], m1) := by
  obtain ⟨p1, p2, p3, p4⟩ := hv.plain
  rw [run_18]
  unfold fnEv a18
  simp only [codeEv, opsEv, oneEv, guardEv, opE_mov, opE_box, opE_load1, opE_loadk, opE_bin, opE_faddr, opE_iaddrL, opE_call, opE_lenL, St.opd, look_set, look_nil, look_cons, St.put, St.new, St.read, lookL_nil, lookL_cons, setL_nil, cellsAt_cons, argsT, resEv, bin_ieq, bin_ine, in_int, in_agg, in_loc, List.contains_cons, List.contains_nil, loc_int, loc_bool, loc_agg, cells_agg, callWith, keepL, List.map, List.length, List.take, List.drop, List.any, List.take_succ_cons, Option.map_some, Nat.reduceEqDiff, Int.reduceEq, Nat.reduceAdd, Nat.reduceLeDiff, Nat.reduceLT, if_true, if_false, Bool.or_false, Bool.not_true, beq_self_eq_true, Bool.false_eq_true, Nat.succ_ne_self, decide_true, decide_false, keepT_setT, keepT_lit, List.take_succ_cons, c1, p1]
theorem reff_3 (n : Nat) {a b c : Int} (m m1 : Mem) (v : AV) (l : List Int) (hv : RS iC 1 m v l) (c1 : run A n 21 [.agg [.int .i64 3, .int .i64 a, .int .i64 b, .int .i64 c]] m = some (.int .i64 0, m1)) : run A (n + 1) 18 [.agg [.int .i64 3, .int .i64 a, .int .i64 b, .int .i64 c], v] m = some (.tup [.int .i64 1, .int .i64 0, .bool true], m1) := by
  obtain ⟨p1, p2, p3, p4⟩ := hv.plain
  rw [run_18]
  unfold fnEv a18
  simp only [codeEv, opsEv, oneEv, guardEv, opE_mov, opE_box, opE_load1, opE_loadk, opE_bin, opE_faddr, opE_iaddrL, opE_call, opE_lenL, St.opd, look_set, look_nil, look_cons, St.put, St.new, St.read, lookL_nil, lookL_cons, setL_nil, cellsAt_cons, argsT, resEv, bin_ieq, bin_ine, in_int, in_agg, in_loc, List.contains_cons, List.contains_nil, loc_int, loc_bool, loc_agg, cells_agg, callWith, keepL, List.map, List.length, List.take, List.drop, List.any, List.take_succ_cons, Option.map_some, Nat.reduceEqDiff, Int.reduceEq, Nat.reduceAdd, Nat.reduceLeDiff, Nat.reduceLT, if_true, if_false, Bool.or_false, Bool.not_true, beq_self_eq_true, Bool.false_eq_true, Nat.succ_ne_self, decide_true, decide_false, keepT_setT, keepT_lit, List.take_succ_cons, c1, p1]
theorem reff_4 (n : Nat) {a b c : Int} (m m1 : Mem) (v : AV) (l : List Int) (hv : RS iC 1 m v l) (c1 : run A n 21 [.agg [.int .i64 4, .int .i64 a, .int .i64 b, .int .i64 c]] m = some (.int .i64 0, m1)) : run A (n + 1) 18 [.agg [.int .i64 4, .int .i64 a, .int .i64 b, .int .i64 c], v] m = some (.tup [.int .i64 0, .int .i64 1, .bool true], m1) := by
  obtain ⟨p1, p2, p3, p4⟩ := hv.plain
  rw [run_18]
  unfold fnEv a18
  simp only [codeEv, opsEv, oneEv, guardEv, opE_mov, opE_box, opE_load1, opE_loadk, opE_bin, opE_faddr, opE_iaddrL, opE_call, opE_lenL, St.opd, look_set, look_nil, look_cons, St.put, St.new, St.read, lookL_nil, lookL_cons, setL_nil, cellsAt_cons, argsT, resEv, bin_ieq, bin_ine, in_int, in_agg, in_loc, List.contains_cons, List.contains_nil, loc_int, loc_bool, loc_agg, cells_agg, callWith, keepL, List.map, List.length, List.take, List.drop, List.any, List.take_succ_cons, Option.map_some, Nat.reduceEqDiff, Int.reduceEq, Nat.reduceAdd, Nat.reduceLeDiff, Nat.reduceLT, if_true, if_false, Bool.or_false, Bool.not_true, beq_self_eq_true, Bool.false_eq_true, Nat.succ_ne_self, decide_true, decide_false, keepT_setT, keepT_lit, List.take_succ_cons, c1, p1]
theorem reff_5 (n : Nat) {a b c : Int} (m m1 : Mem) (v : AV) (l : List Int) (hv : RS iC 1 m v l) (c1 : run A n 21 [.agg [.int .i64 5, .int .i64 a, .int .i64 b, .int .i64 c]] m = some (.int .i64 0, m1)) : run A (n + 1) 18 [.agg [.int .i64 5, .int .i64 a, .int .i64 b, .int .i64 c], v] m = some (.tup [.int .i64 1, .int .i64 0, .bool true], m1) := by
  obtain ⟨p1, p2, p3, p4⟩ := hv.plain
  rw [run_18]
  unfold fnEv a18
  simp only [codeEv, opsEv, oneEv, guardEv, opE_mov, opE_box, opE_load1, opE_loadk, opE_bin, opE_faddr, opE_iaddrL, opE_call, opE_lenL, St.opd, look_set, look_nil, look_cons, St.put, St.new, St.read, lookL_nil, lookL_cons, setL_nil, cellsAt_cons, argsT, resEv, bin_ieq, bin_ine, in_int, in_agg, in_loc, List.contains_cons, List.contains_nil, loc_int, loc_bool, loc_agg, cells_agg, callWith, keepL, List.map, List.length, List.take, List.drop, List.any, List.take_succ_cons, Option.map_some, Nat.reduceEqDiff, Int.reduceEq, Nat.reduceAdd, Nat.reduceLeDiff, Nat.reduceLT, if_true, if_false, Bool.or_false, Bool.not_true, beq_self_eq_true, Bool.false_eq_true, Nat.succ_ne_self, decide_true, decide_false, keepT_setT, keepT_lit, List.take_succ_cons, c1, p1]
theorem reff_6 (n : Nat) {a b c : Int} (m m1 : Mem) (v : AV) (l : List Int) (hv : RS iC 1 m v l) (c1 : run A n 21 [.agg [.int .i64 6, .int .i64 a, .int .i64 b, .int .i64 c]] m = some (.int .i64 0, m1)) : run A (n + 1) 18 [.agg [.int .i64 6, .int .i64 a, .int .i64 b, .int .i64 c], v] m = some (.tup [.int .i64 1, .int .i64 1, .bool true], m1) := by
  obtain ⟨p1, p2, p3, p4⟩ := hv.plain
  rw [run_18]
  unfold fnEv a18
  simp only [codeEv, opsEv, oneEv, guardEv, opE_mov, opE_box, opE_load1, opE_loadk, opE_bin, opE_faddr, opE_iaddrL, opE_call, opE_lenL, St.opd, look_set, look_nil, look_cons, St.put, St.new, St.read, lookL_nil, lookL_cons, setL_nil, cellsAt_cons, argsT, resEv, bin_ieq, bin_ine, in_int, in_agg, in_loc, List.contains_cons, List.contains_nil, loc_int, loc_bool, loc_agg, cells_agg, callWith, keepL, List.map, List.length, List.take, List.drop, List.any, List.take_succ_cons, Option.map_some, Nat.reduceEqDiff, Int.reduceEq, Nat.reduceAdd, Nat.reduceLeDiff, Nat.reduceLT, if_true, if_false, Bool.or_false, Bool.not_true, beq_self_eq_true, Bool.false_eq_true, Nat.succ_ne_self, decide_true, decide_false, keepT_setT, keepT_lit, List.take_succ_cons, c1, p1]
theorem reff_7 (n : Nat) {a b c : Int} (m m1 : Mem) (v : AV) (l : List Int) (hv : RS iC 1 m v l) (c1 : run A n 21 [.agg [.int .i64 7, .int .i64 a, .int .i64 b, .int .i64 c]] m = some (.int .i64 0, m1)) : run A (n + 1) 18 [.agg [.int .i64 7, .int .i64 a, .int .i64 b, .int .i64 c], v] m = some (.tup [.int .i64 2, .int .i64 0, .bool true], m1) := by
  obtain ⟨p1, p2, p3, p4⟩ := hv.plain
  rw [run_18]
  unfold fnEv a18
  simp only [codeEv, opsEv, oneEv, guardEv, opE_mov, opE_box, opE_load1, opE_loadk, opE_bin, opE_faddr, opE_iaddrL, opE_call, opE_lenL, St.opd, look_set, look_nil, look_cons, St.put, St.new, St.read, lookL_nil, lookL_cons, setL_nil, cellsAt_cons, argsT, resEv, bin_ieq, bin_ine, in_int, in_agg, in_loc, List.contains_cons, List.contains_nil, loc_int, loc_bool, loc_agg, cells_agg, callWith, keepL, List.map, List.length, List.take, List.drop, List.any, List.take_succ_cons, Option.map_some, Nat.reduceEqDiff, Int.reduceEq, Nat.reduceAdd, Nat.reduceLeDiff, Nat.reduceLT, if_true, if_false, Bool.or_false, Bool.not_true, beq_self_eq_true, Bool.false_eq_true, Nat.succ_ne_self, decide_true, decide_false, keepT_setT, keepT_lit, List.take_succ_cons, c1, p1]
theorem reff_8 (n : Nat) {a b c : Int} (m m1 : Mem) (v : AV) (l : List Int) (hv : RS iC 1 m v l) (c1 : run A n 21 [.agg [.int .i64 8, .int .i64 a, .int .i64 b, .int .i64 c]] m = some (.int .i64 0, m1)) : run A (n + 1) 18 [.agg [.int .i64 8, .int .i64 a, .int .i64 b, .int .i64 c], v] m = some (.tup [.int .i64 0, .int .i64 1, .bool true], m1) := by
  obtain ⟨p1, p2, p3, p4⟩ := hv.plain
  rw [run_18]
  unfold fnEv a18
  simp only [codeEv, opsEv, oneEv, guardEv, opE_mov, opE_box, opE_load1, opE_loadk, opE_bin, opE_faddr, opE_iaddrL, opE_call, opE_lenL, St.opd, look_set, look_nil, look_cons, St.put, St.new, St.read, lookL_nil, lookL_cons, setL_nil, cellsAt_cons, argsT, resEv, bin_ieq, bin_ine, in_int, in_agg, in_loc, List.contains_cons, List.contains_nil, loc_int, loc_bool, loc_agg, cells_agg, callWith, keepL, List.map, List.length, List.take, List.drop, List.any, List.take_succ_cons, Option.map_some, Nat.reduceEqDiff, Int.reduceEq, Nat.reduceAdd, Nat.reduceLeDiff, Nat.reduceLT, if_true, if_false, Bool.or_false, Bool.not_true, beq_self_eq_true, Bool.false_eq_true, Nat.succ_ne_self, decide_true, decide_false, keepT_setT, keepT_lit, List.take_succ_cons, c1, p1]
theorem reff_9 (n : Nat) {a b c : Int} (m m1 : Mem) (v : AV) (l : List Int) (hv : RS iC 1 m v l) (c1 : run A n 21 [.agg [.int .i64 9, .int .i64 a, .int .i64 b, .int .i64 c]] m = some (.int .i64 0, m1)) : run A (n + 1) 18 [.agg [.int .i64 9, .int .i64 a, .int .i64 b, .int .i64 c], v] m = some (.tup [.int .i64 1, .int .i64 0, .bool true], m1) := by
  obtain ⟨p1, p2, p3, p4⟩ := hv.plain
  rw [run_18]
  unfold fnEv a18
  simp only [codeEv, opsEv, oneEv, guardEv, opE_mov, opE_box, opE_load1, opE_loadk, opE_bin, opE_faddr, opE_iaddrL, opE_call, opE_lenL, St.opd, look_set, look_nil, look_cons, St.put, St.new, St.read, lookL_nil, lookL_cons, setL_nil, cellsAt_cons, argsT, resEv, bin_ieq, bin_ine, in_int, in_agg, in_loc, List.contains_cons, List.contains_nil, loc_int, loc_bool, loc_agg, cells_agg, callWith, keepL, List.map, List.length, List.take, List.drop, List.any, List.take_succ_cons, Option.map_some, Nat.reduceEqDiff, Int.reduceEq, Nat.reduceAdd, Nat.reduceLeDiff, Nat.reduceLT, if_true, if_false, Bool.or_false, Bool.not_true, beq_self_eq_true, Bool.false_eq_true, Nat.succ_ne_self, decide_true, decide_false, keepT_setT, keepT_lit, List.take_succ_cons, c1, p1]
theorem reff_10 (n : Nat) {a b c : Int} (m m1 : Mem) (v : AV) (l : List Int) (hv : RS iC 1 m v l) (c1 : run A n 21 [.agg [.int .i64 10, .int .i64 a, .int .i64 b, .int .i64 c]] m = some (.int .i64 0, m1)) : run A (n + 1) 18 [.agg [.int .i64 10, .int .i64 a, .int .i64 b, .int .i64 c], v] m = some (.tup [.int .i64 0, .int .i64 1, .bool true], m1) := by
  obtain ⟨p1, p2, p3, p4⟩ := hv.plain
  rw [run_18]
  unfold fnEv a18
  simp only [codeEv, opsEv, oneEv, guardEv, opE_mov, opE_box, opE_load1, opE_loadk, opE_bin, opE_faddr, opE_iaddrL, opE_call, opE_lenL, St.opd, look_set, look_nil, look_cons, St.put, St.new, St.read, lookL_nil, lookL_cons, setL_nil, cellsAt_cons, argsT, resEv, bin_ieq, bin_ine, in_int, in_agg, in_loc, List.contains_cons, List.contains_nil, loc_int, loc_bool, loc_agg, cells_agg, callWith, keepL, List.map, List.length, List.take, List.drop, List.any, List.take_succ_cons, Option.map_some, Nat.reduceEqDiff, Int.reduceEq, Nat.reduceAdd, Nat.reduceLeDiff, Nat.reduceLT, if_true, if_false, Bool.or_false, Bool.not_true, beq_self_eq_true, Bool.false_eq_true, Nat.succ_ne_self, decide_true, decide_false, keepT_setT, keepT_lit, List.take_succ_cons, c1, p1]
theorem reff_11 (n : Nat) {a b c : Int} (m m1 : Mem) (v : AV) (l : List Int) (hv : RS iC 1 m v l) (c1 : run A n 21 [.agg [.int .i64 11, .int .i64 a, .int .i64 b, .int .i64 c]] m = some (.int .i64 0, m1)) : run A (n + 1) 18 [.agg [.int .i64 11, .int .i64 a, .int .i64 b, .int .i64 c], v] m = some (.tup [.int .i64 1, .int .i64 0, .bool true], m1) := by
  obtain ⟨p1, p2, p3, p4⟩ := hv.plain
  rw [run_18]
  unfold fnEv a18
  simp only [codeEv, opsEv, oneEv, guardEv, opE_mov, opE_box, opE_load1, opE_loadk, opE_bin, opE_faddr, opE_iaddrL, opE_call, opE_lenL, St.opd, look_set, look_nil, look_cons, St.put, St.new, St.read, lookL_nil, lookL_cons, setL_nil, cellsAt_cons, argsT, resEv, bin_ieq, bin_ine, in_int, in_agg, in_loc, List.contains_cons, List.contains_nil, loc_int, loc_bool, loc_agg, cells_agg, callWith, keepL, List.map, List.length, List.take, List.drop, List.any, List.take_succ_cons, Option.map_some, Nat.reduceEqDiff, Int.reduceEq, Nat.reduceAdd, Nat.reduceLeDiff, Nat.reduceLT, if_true, if_false, Bool.or_false, Bool.not_true, beq_self_eq_true, Bool.false_eq_true, Nat.succ_ne_self, decide_true, decide_false, keepT_setT, keepT_lit, List.take_succ_cons, c1, p1]
theorem reff_12 (n : Nat) {a b c : Int} (m m1 : Mem) (v : AV) (l : List Int) (hv : RS iC 1 m v l) (c1 : run A n 21 [.agg [.int .i64 12, .int .i64 a, .int .i64 b, .int .i64 c]] m = some (.int .i64 0, m1)) : run A (n + 1) 18 [.agg [.int .i64 12, .int .i64 a, .int .i64 b, .int .i64 c], v] m = some (.tup [.int .i64 2, .int .i64 1, .bool true], m1) := by
  obtain ⟨p1, p2, p3, p4⟩ := hv.plain
  rw [run_18]
  unfold fnEv a18
  simp only [codeEv, opsEv, oneEv, guardEv, opE_mov, opE_box, opE_load1, opE_loadk, opE_bin, opE_faddr, opE_iaddrL, opE_call, opE_lenL, St.opd, look_set, look_nil, look_cons, St.put, St.new, St.read, lookL_nil, lookL_cons, setL_nil, cellsAt_cons, argsT, resEv, bin_ieq, bin_ine, in_int, in_agg, in_loc, List.contains_cons, List.contains_nil, loc_int, loc_bool, loc_agg, cells_agg, callWith, keepL, List.map, List.length, List.take, List.drop, List.any, List.take_succ_cons, Option.map_some, Nat.reduceEqDiff, Int.reduceEq, Nat.reduceAdd, Nat.reduceLeDiff, Nat.reduceLT, if_true, if_false, Bool.or_false, Bool.not_true, beq_self_eq_true, Bool.false_eq_true, Nat.succ_ne_self, decide_true, decide_false, keepT_setT, keepT_lit, List.take_succ_cons, c1, p1]
theorem reff_13 (n : Nat) {a b c : Int} (m m1 : Mem) (v : AV) (l : List Int) (hv : RS iC 1 m v l) (c1 : run A n 21 [.agg [.int .i64 13, .int .i64 a, .int .i64 b, .int .i64 c]] m = some (.int .i64 0, m1)) : run A (n + 1) 18 [.agg [.int .i64 13, .int .i64 a, .int .i64 b, .int .i64 c], v] m = some (.tup [.int .i64 1, .int .i64 1, .bool true], m1) := by
  obtain ⟨p1, p2, p3, p4⟩ := hv.plain
  rw [run_18]
  unfold fnEv a18
  simp only [codeEv, opsEv, oneEv, guardEv, opE_mov, opE_box, opE_load1, opE_loadk, opE_bin, opE_faddr, opE_iaddrL, opE_call, opE_lenL, St.opd, look_set, look_nil, look_cons, St.put, St.new, St.read, lookL_nil, lookL_cons, setL_nil, cellsAt_cons, argsT, resEv, bin_ieq, bin_ine, in_int, in_agg, in_loc, List.contains_cons, List.contains_nil, loc_int, loc_bool, loc_agg, cells_agg, callWith, keepL, List.map, List.length, List.take, List.drop, List.any, List.take_succ_cons, Option.map_some, Nat.reduceEqDiff, Int.reduceEq, Nat.reduceAdd, Nat.reduceLeDiff, Nat.reduceLT, if_true, if_false, Bool.or_false, Bool.not_true, beq_self_eq_true, Bool.false_eq_true, Nat.succ_ne_self, decide_true, decide_false, keepT_setT, keepT_lit, List.take_succ_cons, c1, p1]
theorem reff_14 (n : Nat) {a b c : Int} (m m1 : Mem) (v : AV) (l : List Int) (hv : RS iC 1 m v l) (c1 : run A n 21 [.agg [.int .i64 14, .int .i64 a, .int .i64 b, .int .i64 c]] m = some (.int .i64 0, m1)) : run A (n + 1) 18 [.agg [.int .i64 14, .int .i64 a, .int .i64 b, .int .i64 c], v] m = some (.tup [.int .i64 1, .int .i64 1, .bool true], m1) := by
  obtain ⟨p1, p2, p3, p4⟩ := hv.plain
  rw [run_18]
  unfold fnEv a18
  simp only [codeEv, opsEv, oneEv, guardEv, opE_mov, opE_box, opE_load1, opE_loadk, opE_bin, opE_faddr, opE_iaddrL, opE_call, opE_lenL, St.opd, look_set, look_nil, look_cons, St.put, St.new, St.read, lookL_nil, lookL_cons, setL_nil, cellsAt_cons, argsT, resEv, bin_ieq, bin_ine, in_int, in_agg, in_loc, List.contains_cons, List.contains_nil, loc_int, loc_bool, loc_agg, cells_agg, callWith, keepL, List.map, List.length, List.take, List.drop, List.any, List.take_succ_cons, Option.map_some, Nat.reduceEqDiff, Int.reduceEq, Nat.reduceAdd, Nat.reduceLeDiff, Nat.reduceLT, if_true, if_false, Bool.or_false, Bool.not_true, beq_self_eq_true, Bool.false_eq_true, Nat.succ_ne_self, decide_true, decide_false, keepT_setT, keepT_lit, List.take_succ_cons, c1, p1]
theorem reff_15 (n : Nat) {a b c : Int} (m m1 : Mem) (v : AV) (l : List Int) (hv : RS iC 1 m v l) (c1 : run A n 21 [.agg [.int .i64 15, .int .i64 a, .int .i64 b, .int .i64 c]] m = some (.int .i64 0, m1)) : run A (n + 1) 18 [.agg [.int .i64 15, .int .i64 a, .int .i64 b, .int .i64 c], v] m = some (.tup [.int .i64 0, .int .i64 0, .bool true], m1) := by
  obtain ⟨p1, p2, p3, p4⟩ := hv.plain
  rw [run_18]
  unfold fnEv a18
  simp only [codeEv, opsEv, oneEv, guardEv, opE_mov, opE_box, opE_load1, opE_loadk, opE_bin, opE_faddr, opE_iaddrL, opE_call, opE_lenL, St.opd, look_set, look_nil, look_cons, St.put, St.new, St.read, lookL_nil, lookL_cons, setL_nil, cellsAt_cons, argsT, resEv, bin_ieq, bin_ine, in_int, in_agg, in_loc, List.contains_cons, List.contains_nil, loc_int, loc_bool, loc_agg, cells_agg, callWith, keepL, List.map, List.length, List.take, List.drop, List.any, List.take_succ_cons, Option.map_some, Nat.reduceEqDiff, Int.reduceEq, Nat.reduceAdd, Nat.reduceLeDiff, Nat.reduceLT, if_true, if_false, Bool.or_false, Bool.not_true, beq_self_eq_true, Bool.false_eq_true, Nat.succ_ne_self, decide_true, decide_false, keepT_setT, keepT_lit, List.take_succ_cons, c1, p1]
theorem reff_16 (n : Nat) {a b c : Int} (m m1 : Mem) (v : AV) (l : List Int) (hv : RS iC 1 m v l) (c1 : run A n 21 [.agg [.int .i64 16, .int .i64 a, .int .i64 b, .int .i64 c]] m = some (.int .i64 0, m1)) : run A (n + 1) 18 [.agg [.int .i64 16, .int .i64 a, .int .i64 b, .int .i64 c], v] m = some (.tup [.int .i64 1, .int .i64 0, .bool true], m1) := by
  obtain ⟨p1, p2, p3, p4⟩ := hv.plain
  rw [run_18]
  unfold fnEv a18
  simp only [codeEv, opsEv, oneEv, guardEv, opE_mov, opE_box, opE_load1, opE_loadk, opE_bin, opE_faddr, opE_iaddrL, opE_call, opE_lenL, St.opd, look_set, look_nil, look_cons, St.put, St.new, St.read, lookL_nil, lookL_cons, setL_nil, cellsAt_cons, argsT, resEv, bin_ieq, bin_ine, in_int, in_agg, in_loc, List.contains_cons, List.contains_nil, loc_int, loc_bool, loc_agg, cells_agg, callWith, keepL, List.map, List.length, List.take, List.drop, List.any, List.take_succ_cons, Option.map_some, Nat.reduceEqDiff, Int.reduceEq, Nat.reduceAdd, Nat.reduceLeDiff, Nat.reduceLT, if_true, if_false, Bool.or_false, Bool.not_true, beq_self_eq_true, Bool.false_eq_true, Nat.succ_ne_self, decide_true, decide_false, keepT_setT, keepT_lit, List.take_succ_cons, c1, p1]
theorem reff_18 (n : Nat) {a b c : Int} (m m1 : Mem) (v : AV) (l : List Int) (hv : RS iC 1 m v l) (c1 : run A n 21 [.agg [.int .i64 18, .int .i64 a, .int .i64 b, .int .i64 c]] m = some (.int .i64 0, m1)) : run A (n + 1) 18 [.agg [.int .i64 18, .int .i64 a, .int .i64 b, .int .i64 c], v] m = some (.tup [.int .i64 1, .int .i64 0, .bool true], m1) := by
  obtain ⟨p1, p2, p3, p4⟩ := hv.plain
  rw [run_18]
  unfold fnEv a18
  simp only [codeEv, opsEv, oneEv, guardEv, opE_mov, opE_box, opE_load1, opE_loadk, opE_bin, opE_faddr, opE_iaddrL, opE_call, opE_lenL, St.opd, look_set, look_nil, look_cons, St.put, St.new, St.read, lookL_nil, lookL_cons, setL_nil, cellsAt_cons, argsT, resEv, bin_ieq, bin_ine, in_int, in_agg, in_loc, List.contains_cons, List.contains_nil, loc_int, loc_bool, loc_agg, cells_agg, callWith, keepL, List.map, List.length, List.take, List.drop, List.any, List.take_succ_cons, Option.map_some, Nat.reduceEqDiff, Int.reduceEq, Nat.reduceAdd, Nat.reduceLeDiff, Nat.reduceLT, if_true, if_false, Bool.or_false, Bool.not_true, beq_self_eq_true, Bool.false_eq_true, Nat.succ_ne_self, decide_true, decide_false, keepT_setT, keepT_lit, List.take_succ_cons, c1, p1]
theorem reff_19 (n : Nat) {a b c : Int} (m m1 : Mem) (v : AV) (l : List Int) (hv : RS iC 1 m v l) (c1 : run A n 21 [.agg [.int .i64 19, .int .i64 a, .int .i64 b, .int .i64 c]] m = some (.int .i64 0, m1)) : run A (n + 1) 18 [.agg [.int .i64 19, .int .i64 a, .int .i64 b, .int .i64 c], v] m = some (.tup [.int .i64 0, .int .i64 0, .bool true], m1) := by
  obtain ⟨p1, p2, p3, p4⟩ := hv.plain
  rw [run_18]
  unfold fnEv a18
  simp only [codeEv, opsEv, oneEv, guardEv, opE_mov, opE_box, opE_load1, opE_loadk, opE_bin, opE_faddr, opE_iaddrL, opE_call, opE_lenL, St.opd, look_set, look_nil, look_cons, St.put, St.new, St.read, lookL_nil, lookL_cons, setL_nil, cellsAt_cons, argsT, resEv, bin_ieq, bin_ine, in_int, in_agg, in_loc, List.contains_cons, List.contains_nil, loc_int, loc_bool, loc_agg, cells_agg, callWith, keepL, List.map, List.length, List.take, List.drop, List.any, List.take_succ_cons, Option.map_some, Nat.reduceEqDiff, Int.reduceEq, Nat.reduceAdd, Nat.reduceLeDiff, Nat.reduceLT, if_true, if_false, Bool.or_false, Bool.not_true, beq_self_eq_true, Bool.false_eq_true, Nat.succ_ne_self, decide_true, decide_false, keepT_setT, keepT_lit, List.take_succ_cons, c1, p1]
theorem reff_20 (n : Nat) {a b c : Int} (m m1 : Mem) (v : AV) (l : List Int) (hv : RS iC 1 m v l) (c1 : run A n 21 [.agg [.int .i64 20, .int .i64 a, .int .i64 b, .int .i64 c]] m = some (.int .i64 0, m1)) : run A (n + 1) 18 [.agg [.int .i64 20, .int .i64 a, .int .i64 b, .int .i64 c], v] m = some (.tup [.int .i64 0, .int .i64 0, .bool true], m1) := by
  obtain ⟨p1, p2, p3, p4⟩ := hv.plain
  rw [run_18]
  unfold fnEv a18
  simp only [codeEv, opsEv, oneEv, guardEv, opE_mov, opE_box, opE_load1, opE_loadk, opE_bin, opE_faddr, opE_iaddrL, opE_call, opE_lenL, St.opd, look_set, look_nil, look_cons, St.put, St.new, St.read, lookL_nil, lookL_cons, setL_nil, cellsAt_cons, argsT, resEv, bin_ieq, bin_ine, in_int, in_agg, in_loc, List.contains_cons, List.contains_nil, loc_int, loc_bool, loc_agg, cells_agg, callWith, keepL, List.map, List.length, List.take, List.drop, List.any, List.take_succ_cons, Option.map_some, Nat.reduceEqDiff, Int.reduceEq, Nat.reduceAdd, Nat.reduceLeDiff, Nat.reduceLT, if_true, if_false, Bool.or_false, Bool.not_true, beq_self_eq_true, Bool.false_eq_true, Nat.succ_ne_self, decide_true, decide_false, keepT_setT, keepT_lit, List.take_succ_cons, c1, p1]
theorem reff_21 (n : Nat) {a b c : Int} (m m1 : Mem) (v : AV) (l : List Int) (hv : RS iC 1 m v l) (c1 : run A n 21 [.agg [.int .i64 21, .int .i64 a, .int .i64 b, .int .i64 c]] m = some (.int .i64 0, m1)) : run A (n + 1) 18 [.agg [.int .i64 21, .int .i64 a, .int .i64 b, .int .i64 c], v] m = some (.tup [.int .i64 0, .int .i64 0, .bool true], m1) := by
  obtain ⟨p1, p2, p3, p4⟩ := hv.plain
  rw [run_18]
  unfold fnEv a18
  simp only [codeEv, opsEv, oneEv, guardEv, opE_mov, opE_box, opE_load1, opE_loadk, opE_bin, opE_faddr, opE_iaddrL, opE_call, opE_lenL, St.opd, look_set, look_nil, look_cons, St.put, St.new, St.read, lookL_nil, lookL_cons, setL_nil, cellsAt_cons, argsT, resEv, bin_ieq, bin_ine, in_int, in_agg, in_loc, List.contains_cons, List.contains_nil, loc_int, loc_bool, loc_agg, cells_agg, callWith, keepL, List.map, List.length, List.take, List.drop, List.any, List.take_succ_cons, Option.map_some, Nat.reduceEqDiff, Int.reduceEq, Nat.reduceAdd, Nat.reduceLeDiff, Nat.reduceLT, if_true, if_false, Bool.or_false, Bool.not_true, beq_self_eq_true, Bool.false_eq_true, Nat.succ_ne_self, decide_true, decide_false, keepT_setT, keepT_lit, List.take_succ_cons, c1, p1]
theorem reff_22 (n : Nat) {a b c : Int} (m m1 : Mem) (v : AV) (l : List Int) (hv : RS iC 1 m v l) (c1 : run A n 21 [.agg [.int .i64 22, .int .i64 a, .int .i64 b, .int .i64 c]] m = some (.int .i64 0, m1)) : run A (n + 1) 18 [.agg [.int .i64 22, .int .i64 a, .int .i64 b, .int .i64 c], v] m = some (.tup [.int .i64 0, .int .i64 0, .bool true], m1) := by
  obtain ⟨p1, p2, p3, p4⟩ := hv.plain
  rw [run_18]
  unfold fnEv a18
  simp only [codeEv, opsEv, oneEv, guardEv, opE_mov, opE_box, opE_load1, opE_loadk, opE_bin, opE_faddr, opE_iaddrL, opE_call, opE_lenL, St.opd, look_set, look_nil, look_cons, St.put, St.new, St.read, lookL_nil, lookL_cons, setL_nil, cellsAt_cons, argsT, resEv, bin_ieq, bin_ine, in_int, in_agg, in_loc, List.contains_cons, List.contains_nil, loc_int, loc_bool, loc_agg, cells_agg, callWith, keepL, List.map, List.length, List.take, List.drop, List.any, List.take_succ_cons, Option.map_some, Nat.reduceEqDiff, Int.reduceEq, Nat.reduceAdd, Nat.reduceLeDiff, Nat.reduceLT, if_true, if_false, Bool.or_false, Bool.not_true, beq_self_eq_true, Bool.false_eq_true, Nat.succ_ne_self, decide_true, decide_false, keepT_setT, keepT_lit, List.take_succ_cons, c1, p1]
theorem reff_23 (n : Nat) {a b c : Int} (m m1 : Mem) (v : AV) (l : List Int) (hv : RS iC 1 m v l) (c1 : run A n 21 [.agg [.int .i64 23, .int .i64 a, .int .i64 b, .int .i64 c]] m = some (.int .i64 0, m1)) : run A (n + 1) 18 [.agg [.int .i64 23, .int .i64 a, .int .i64 b, .int .i64 c], v] m = some (.tup [.int .i64 0, .int .i64 0, .bool true], m1) := by
  obtain ⟨p1, p2, p3, p4⟩ := hv.plain
  rw [run_18]
  unfold fnEv a18
  simp only [codeEv, opsEv, oneEv, guardEv, opE_mov, opE_box, opE_load1, opE_loadk, opE_bin, opE_faddr, opE_iaddrL, opE_call, opE_lenL, St.opd, look_set, look_nil, look_cons, St.put, St.new, St.read, lookL_nil, lookL_cons, setL_nil, cellsAt_cons, argsT, resEv, bin_ieq, bin_ine, in_int, in_agg, in_loc, List.contains_cons, List.contains_nil, loc_int, loc_bool, loc_agg, cells_agg, callWith, keepL, List.map, List.length, List.take, List.drop, List.any, List.take_succ_cons, Option.map_some, Nat.reduceEqDiff, Int.reduceEq, Nat.reduceAdd, Nat.reduceLeDiff, Nat.reduceLT, if_true, if_false, Bool.or_false, Bool.not_true, beq_self_eq_true, Bool.false_eq_true, Nat.succ_ne_self, decide_true, decide_false, keepT_setT, keepT_lit, List.take_succ_cons, c1, p1]
theorem reff_24 (n : Nat) {a b c : Int} (m m1 : Mem) (v : AV) (l : List Int) (hv : RS iC 1 m v l) (c1 : run A n 21 [.agg [.int .i64 24, .int .i64 a, .int .i64 b, .int .i64 c]] m = some (.int .i64 0, m1)) : run A (n + 1) 18 [.agg [.int .i64 24, .int .i64 a, .int .i64 b, .int .i64 c], v] m = some (.tup [.int .i64 0, .int .i64 0, .bool true], m1) := by
  obtain ⟨p1, p2, p3, p4⟩ := hv.plain
  rw [run_18]
  unfold fnEv a18
  simp only [codeEv, opsEv, oneEv, guardEv, opE_mov, opE_box, opE_load1, opE_loadk, opE_bin, opE_faddr, opE_iaddrL, opE_call, opE_lenL, St.opd, look_set, look_nil, look_cons, St.put, St.new, St.read, lookL_nil, lookL_cons, setL_nil, cellsAt_cons, argsT, resEv, bin_ieq, bin_ine, in_int, in_agg, in_loc, List.contains_cons, List.contains_nil, loc_int, loc_bool, loc_agg, cells_agg, callWith, keepL, List.map, List.length, List.take, List.drop, List.any, List.take_succ_cons, Option.map_some, Nat.reduceEqDiff, Int.reduceEq, Nat.reduceAdd, Nat.reduceLeDiff, Nat.reduceLT, if_true, if_false, Bool.or_false, Bool.not_true, beq_self_eq_true, Bool.false_eq_true, Nat.succ_ne_self, decide_true, decide_false, keepT_setT, keepT_lit, List.take_succ_cons, c1, p1]
theorem reff_17 (n : Nat) {a b c : Int} (h0 : 0 ≤ a) (m m1 : Mem) (hx : Ext m m1) (v : AV) (l : List Int) (hv : RS iC 1 m v l) (c1 : run A n 21 [.agg [.int .i64 17, .int .i64 a, .int .i64 b, .int .i64 c]] m = some (.int .i64 0, m1)) : run A (n + 1) 18 [.agg [.int .i64 17, .int .i64 a, .int .i64 b, .int .i64 c], v] m = some ((if (l.length : Int) ≤ a then .tup [.int .i64 0, .int .i64 0, .bool false] else .tup [.int .i64 (l[a.toNat]?.getD 0), .int .i64 1, .bool true]), m1) := by
  obtain ⟨p1, p2, p3, p4⟩ := hv.plain
  have p5 := hv.lenR
  rw [run_18]
  unfold fnEv a18
  by_cases hl : (l.length : Int) ≤ a
  · have hl' : a ≥ (l.length : Int) := hl
    rw [if_pos hl]
    simp only [codeEv, opsEv, oneEv, guardEv, opE_mov, opE_box, opE_load1, opE_loadk, opE_bin, opE_faddr, opE_call, opE_lenL, St.opd, look_set, look_nil, look_cons, St.put, St.new, St.read, lookL_nil, lookL_cons, setL_nil, cellsAt_cons, argsT, resEv, bin_ige, bin_ieq, bin_ine, in_int, in_agg, in_loc, List.contains_cons, List.contains_nil, loc_int, loc_bool, loc_agg, cells_agg, callWith, keepL, List.map, List.length, List.take, List.drop, List.any, List.take_succ_cons, Option.map_some, Nat.reduceEqDiff, Int.reduceEq, Nat.reduceAdd, Nat.reduceLeDiff, Nat.reduceLT, if_true, if_false, Bool.or_false, Bool.not_true, beq_self_eq_true, Bool.false_eq_true, Nat.succ_ne_self, decide_true, decide_false, keepT_setT, keepT_lit, List.take_succ_cons, c1, p1, p5, hl']
  · have hl' : ¬ a ≥ (l.length : Int) := hl
    rw [if_neg hl]
    obtain ⟨x, hx'⟩ : ∃ x, l[a.toNat]? = some x := ⟨l[a.toNat]'(by omega), by simp⟩
    have hd : l[a.toNat]?.getD 0 = x := by simp [hx']
    obtain ⟨B, O, C, ow, e1, e2, e3⟩ := NS.elem (hv.ext hx) h0 hx'
    simp only [codeEv, opsEv, oneEv, guardEv, opE_mov, opE_box, opE_load1, opE_loadk, opE_bin, opE_faddr, opE_iaddrL, opE_call, opE_lenL, St.opd, look_set, look_nil, look_cons, St.put, St.new, St.read, lookL_nil, lookL_cons, setL_nil, cellsAt_cons, argsT, resEv, bin_ige, bin_ieq, bin_ine, in_int, in_agg, in_loc, List.contains_cons, List.contains_nil, loc_int, loc_bool, loc_agg, cells_agg, callWith, keepL, List.map, List.length, List.take, List.drop, List.any, List.take_succ_cons, Option.map_some, Nat.reduceEqDiff, Int.reduceEq, Nat.reduceAdd, Nat.reduceLeDiff, Nat.reduceLT, if_true, if_false, Bool.or_false, Bool.not_true, beq_self_eq_true, Bool.false_eq_true, Nat.succ_ne_self, decide_true, decide_false, keepT_setT, keepT_lit, List.take_succ_cons, c1, p1, p5, hl', e1, e2, e3, hd]
theorem kx_tg : (kx 4 1 = 0 ∧ kx 5 1 = 0 ∧ kx 4 2 = 0 ∧ kx 5 2 = 1 ∧ kx 4 3 = 1 ∧ kx 5 3 = 0 ∧ kx 4 4 = 0 ∧ kx 5 4 = 1 ∧ kx 4 5 = 1 ∧ kx 5 5 = 0 ∧ kx 4 6 = 1 ∧ kx 5 6 = 1 ∧ kx 4 7 = 2 ∧ kx 5 7 = 0 ∧ kx 4 8 = 0 ∧ kx 5 8 = 1 ∧ kx 4 9 = 1 ∧ kx 5 9 = 0 ∧ kx 4 10 = 0 ∧ kx 5 10 = 1 ∧ kx 4 11 = 1 ∧ kx 5 11 = 0 ∧ kx 4 12 = 2 ∧ kx 5 12 = 1 ∧ kx 4 13 = 1 ∧ kx 5 13 = 1 ∧ kx 4 14 = 1 ∧ kx 5 14 = 1 ∧ kx 4 15 = 0 ∧ kx 5 15 = 0 ∧ kx 4 16 = 1 ∧ kx 5 16 = 0 ∧ kx 4 17 = 0 ∧ kx 5 17 = 1 ∧ kx 4 18 = 1 ∧ kx 5 18 = 0 ∧ kx 4 19 = 0 ∧ kx 5 19 = 0 ∧ kx 4 20 = 0 ∧ kx 5 20 = 0 ∧ kx 4 21 = 0 ∧ kx 5 21 = 0 ∧ kx 4 22 = 0 ∧ kx 5 22 = 0 ∧ kx 4 23 = 0 ∧ kx 5 23 = 0 ∧ kx 4 24 = 0 ∧ kx 5 24 = 0) := by decide +kernel
theorem reff_run (N : Nat) (hN : 6 ≤ N) (op a b c : Int) (m : Mem) (hmn : m.n + 3 ≤ 2 ^ depth) (v : AV) (l : List Int) (hv : RS iC 1 m v l) : ∃ m', run A N 18 [.agg [.int .i64 op, .int .i64 a, .int .i64 b, .int .i64 c], v] m = some (effI op a b c l, m') ∧ Gr m m' 3 := by
  obtain ⟨n, rfl⟩ : ∃ n, N = n + 1 := ⟨N - 1, by omega⟩
  obtain ⟨m1, c1, g1⟩ := rcheck_run n (by omega) op a b c m hmn
  refine ⟨m1, ?_, g1⟩
  unfold effI
  cases hk : codeOk op a b c
  · rw [hk] at c1
    exact reff_bad n m m1 v l hv c1
  · rw [hk] at c1
    simp only [if_true] at c1 ⊢
    obtain ⟨h1, h2⟩ := codeOk_op hk
    obtain ⟨k, rfl⟩ : ∃ k : Nat, op = (k : Int) := ⟨op.toNat, by omega⟩
    rw [Int.toNat_natCast]
    have T := kx_tg
    match k, h1, h2 with
    | 1, _, _ =>
      obtain ⟨e4, e5, _, _, _, _, _, _, _, _, _, _, _, _, _, _, _, _, _, _, _, _, _, _, _, _, _, _, _, _, _, _, _, _, _, _, _, _, _, _, _, _, _, _, _, _, _, _⟩ := T
      have hf : ¬ ((1 : Nat) : Int) = 17 := by omega
      rw [if_neg hf, e4, e5]
      exact reff_1 n m m1 v l hv c1
    | 2, _, _ =>
      obtain ⟨_, _, e4, e5, _, _, _, _, _, _, _, _, _, _, _, _, _, _, _, _, _, _, _, _, _, _, _, _, _, _, _, _, _, _, _, _, _, _, _, _, _, _, _, _, _, _, _, _⟩ := T
      have hf : ¬ ((2 : Nat) : Int) = 17 := by omega
      rw [if_neg hf, e4, e5]
      exact reff_2 n m m1 v l hv c1
    | 3, _, _ =>
      obtain ⟨_, _, _, _, e4, e5, _, _, _, _, _, _, _, _, _, _, _, _, _, _, _, _, _, _, _, _, _, _, _, _, _, _, _, _, _, _, _, _, _, _, _, _, _, _, _, _, _, _⟩ := T
      have hf : ¬ ((3 : Nat) : Int) = 17 := by omega
      rw [if_neg hf, e4, e5]
      exact reff_3 n m m1 v l hv c1
    | 4, _, _ =>
      obtain ⟨_, _, _, _, _, _, e4, e5, _, _, _, _, _, _, _, _, _, _, _, _, _, _, _, _, _, _, _, _, _, _, _, _, _, _, _, _, _, _, _, _, _, _, _, _, _, _, _, _⟩ := T
      have hf : ¬ ((4 : Nat) : Int) = 17 := by omega
      rw [if_neg hf, e4, e5]
      exact reff_4 n m m1 v l hv c1
    | 5, _, _ =>
      obtain ⟨_, _, _, _, _, _, _, _, e4, e5, _, _, _, _, _, _, _, _, _, _, _, _, _, _, _, _, _, _, _, _, _, _, _, _, _, _, _, _, _, _, _, _, _, _, _, _, _, _⟩ := T
      have hf : ¬ ((5 : Nat) : Int) = 17 := by omega
      rw [if_neg hf, e4, e5]
      exact reff_5 n m m1 v l hv c1
    | 6, _, _ =>
      obtain ⟨_, _, _, _, _, _, _, _, _, _, e4, e5, _, _, _, _, _, _, _, _, _, _, _, _, _, _, _, _, _, _, _, _, _, _, _, _, _, _, _, _, _, _, _, _, _, _, _, _⟩ := T
      have hf : ¬ ((6 : Nat) : Int) = 17 := by omega
      rw [if_neg hf, e4, e5]
      exact reff_6 n m m1 v l hv c1
    | 7, _, _ =>
      obtain ⟨_, _, _, _, _, _, _, _, _, _, _, _, e4, e5, _, _, _, _, _, _, _, _, _, _, _, _, _, _, _, _, _, _, _, _, _, _, _, _, _, _, _, _, _, _, _, _, _, _⟩ := T
      have hf : ¬ ((7 : Nat) : Int) = 17 := by omega
      rw [if_neg hf, e4, e5]
      exact reff_7 n m m1 v l hv c1
    | 8, _, _ =>
      obtain ⟨_, _, _, _, _, _, _, _, _, _, _, _, _, _, e4, e5, _, _, _, _, _, _, _, _, _, _, _, _, _, _, _, _, _, _, _, _, _, _, _, _, _, _, _, _, _, _, _, _⟩ := T
      have hf : ¬ ((8 : Nat) : Int) = 17 := by omega
      rw [if_neg hf, e4, e5]
      exact reff_8 n m m1 v l hv c1
    | 9, _, _ =>
      obtain ⟨_, _, _, _, _, _, _, _, _, _, _, _, _, _, _, _, e4, e5, _, _, _, _, _, _, _, _, _, _, _, _, _, _, _, _, _, _, _, _, _, _, _, _, _, _, _, _, _, _⟩ := T
      have hf : ¬ ((9 : Nat) : Int) = 17 := by omega
      rw [if_neg hf, e4, e5]
      exact reff_9 n m m1 v l hv c1
    | 10, _, _ =>
      obtain ⟨_, _, _, _, _, _, _, _, _, _, _, _, _, _, _, _, _, _, e4, e5, _, _, _, _, _, _, _, _, _, _, _, _, _, _, _, _, _, _, _, _, _, _, _, _, _, _, _, _⟩ := T
      have hf : ¬ ((10 : Nat) : Int) = 17 := by omega
      rw [if_neg hf, e4, e5]
      exact reff_10 n m m1 v l hv c1
    | 11, _, _ =>
      obtain ⟨_, _, _, _, _, _, _, _, _, _, _, _, _, _, _, _, _, _, _, _, e4, e5, _, _, _, _, _, _, _, _, _, _, _, _, _, _, _, _, _, _, _, _, _, _, _, _, _, _⟩ := T
      have hf : ¬ ((11 : Nat) : Int) = 17 := by omega
      rw [if_neg hf, e4, e5]
      exact reff_11 n m m1 v l hv c1
    | 12, _, _ =>
      obtain ⟨_, _, _, _, _, _, _, _, _, _, _, _, _, _, _, _, _, _, _, _, _, _, e4, e5, _, _, _, _, _, _, _, _, _, _, _, _, _, _, _, _, _, _, _, _, _, _, _, _⟩ := T
      have hf : ¬ ((12 : Nat) : Int) = 17 := by omega
      rw [if_neg hf, e4, e5]
      exact reff_12 n m m1 v l hv c1
    | 13, _, _ =>
      obtain ⟨_, _, _, _, _, _, _, _, _, _, _, _, _, _, _, _, _, _, _, _, _, _, _, _, e4, e5, _, _, _, _, _, _, _, _, _, _, _, _, _, _, _, _, _, _, _, _, _, _⟩ := T
      have hf : ¬ ((13 : Nat) : Int) = 17 := by omega
      rw [if_neg hf, e4, e5]
      exact reff_13 n m m1 v l hv c1
    | 14, _, _ =>
      obtain ⟨_, _, _, _, _, _, _, _, _, _, _, _, _, _, _, _, _, _, _, _, _, _, _, _, _, _, e4, e5, _, _, _, _, _, _, _, _, _, _, _, _, _, _, _, _, _, _, _, _⟩ := T
      have hf : ¬ ((14 : Nat) : Int) = 17 := by omega
      rw [if_neg hf, e4, e5]
      exact reff_14 n m m1 v l hv c1
    | 15, _, _ =>
      obtain ⟨_, _, _, _, _, _, _, _, _, _, _, _, _, _, _, _, _, _, _, _, _, _, _, _, _, _, _, _, e4, e5, _, _, _, _, _, _, _, _, _, _, _, _, _, _, _, _, _, _⟩ := T
      have hf : ¬ ((15 : Nat) : Int) = 17 := by omega
      rw [if_neg hf, e4, e5]
      exact reff_15 n m m1 v l hv c1
    | 16, _, _ =>
      obtain ⟨_, _, _, _, _, _, _, _, _, _, _, _, _, _, _, _, _, _, _, _, _, _, _, _, _, _, _, _, _, _, e4, e5, _, _, _, _, _, _, _, _, _, _, _, _, _, _, _, _⟩ := T
      have hf : ¬ ((16 : Nat) : Int) = 17 := by omega
      rw [if_neg hf, e4, e5]
      exact reff_16 n m m1 v l hv c1
    | 17, _, _ =>
      obtain ⟨_, _, _, _, _, _, _, _, _, _, _, _, _, _, _, _, _, _, _, _, _, _, _, _, _, _, _, _, _, _, _, _, e4, e5, _, _, _, _, _, _, _, _, _, _, _, _, _, _⟩ := T
      have hf : ((17 : Nat) : Int) = 17 := rfl
      rw [if_pos hf, e5]
      exact reff_17 n (codeOk_call hk) m m1 g1.1 v l hv c1
    | 18, _, _ =>
      obtain ⟨_, _, _, _, _, _, _, _, _, _, _, _, _, _, _, _, _, _, _, _, _, _, _, _, _, _, _, _, _, _, _, _, _, _, e4, e5, _, _, _, _, _, _, _, _, _, _, _, _⟩ := T
      have hf : ¬ ((18 : Nat) : Int) = 17 := by omega
      rw [if_neg hf, e4, e5]
      exact reff_18 n m m1 v l hv c1
    | 19, _, _ =>
      obtain ⟨_, _, _, _, _, _, _, _, _, _, _, _, _, _, _, _, _, _, _, _, _, _, _, _, _, _, _, _, _, _, _, _, _, _, _, _, e4, e5, _, _, _, _, _, _, _, _, _, _⟩ := T
      have hf : ¬ ((19 : Nat) : Int) = 17 := by omega
      rw [if_neg hf, e4, e5]
      exact reff_19 n m m1 v l hv c1
    | 20, _, _ =>
      obtain ⟨_, _, _, _, _, _, _, _, _, _, _, _, _, _, _, _, _, _, _, _, _, _, _, _, _, _, _, _, _, _, _, _, _, _, _, _, _, _, e4, e5, _, _, _, _, _, _, _, _⟩ := T
      have hf : ¬ ((20 : Nat) : Int) = 17 := by omega
      rw [if_neg hf, e4, e5]
      exact reff_20 n m m1 v l hv c1
    | 21, _, _ =>
      obtain ⟨_, _, _, _, _, _, _, _, _, _, _, _, _, _, _, _, _, _, _, _, _, _, _, _, _, _, _, _, _, _, _, _, _, _, _, _, _, _, _, _, e4, e5, _, _, _, _, _, _⟩ := T
      have hf : ¬ ((21 : Nat) : Int) = 17 := by omega
      rw [if_neg hf, e4, e5]
      exact reff_21 n m m1 v l hv c1
    | 22, _, _ =>
      obtain ⟨_, _, _, _, _, _, _, _, _, _, _, _, _, _, _, _, _, _, _, _, _, _, _, _, _, _, _, _, _, _, _, _, _, _, _, _, _, _, _, _, _, _, e4, e5, _, _, _, _⟩ := T
      have hf : ¬ ((22 : Nat) : Int) = 17 := by omega
      rw [if_neg hf, e4, e5]
      exact reff_22 n m m1 v l hv c1
    | 23, _, _ =>
      obtain ⟨_, _, _, _, _, _, _, _, _, _, _, _, _, _, _, _, _, _, _, _, _, _, _, _, _, _, _, _, _, _, _, _, _, _, _, _, _, _, _, _, _, _, _, _, e4, e5, _, _⟩ := T
      have hf : ¬ ((23 : Nat) : Int) = 17 := by omega
      rw [if_neg hf, e4, e5]
      exact reff_23 n m m1 v l hv c1
    | 24, _, _ =>
      obtain ⟨_, _, _, _, _, _, _, _, _, _, _, _, _, _, _, _, _, _, _, _, _, _, _, _, _, _, _, _, _, _, _, _, _, _, _, _, _, _, _, _, _, _, _, _, _, _, e4, e5⟩ := T
      have hf : ¬ ((24 : Nat) : Int) = 17 := by omega
      rw [if_neg hf, e4, e5]
      exact reff_24 n m m1 v l hv c1
    | 0, h1, _ => exact absurd h1 (by omega)
    | k + 25, _, h2 => exact absurd h2 (by omega)
def namesL : List AV := [.str ⟨#[104, 97, 108, 116]⟩, .str ⟨#[112, 117, 115, 104]⟩, .str ⟨#[112, 111, 112]⟩, .str ⟨#[108, 100]⟩, .str ⟨#[115, 116]⟩, .str ⟨#[108, 100, 120]⟩, .str ⟨#[115, 116, 120]⟩, .str ⟨#[108, 100, 108]⟩, .str ⟨#[115, 116, 108]⟩, .str ⟨#[105, 110]⟩, .str ⟨#[111, 117, 116]⟩, .str ⟨#[98, 105, 110]⟩, .str ⟨#[117, 110]⟩, .str ⟨#[99, 117, 116]⟩, .str ⟨#[106, 109, 112]⟩, .str ⟨#[106, 122]⟩, .str ⟨#[99, 97, 108, 108]⟩, .str ⟨#[114, 101, 116]⟩, .str ⟨#[101, 110]⟩, .str ⟨#[100, 105, 115]⟩, .str ⟨#[108, 118, 108]⟩, .str ⟨#[112, 116]⟩, .str ⟨#[98, 101, 103]⟩, .str ⟨#[101, 110, 100]⟩]
theorem names_at (j : Nat) (h : j < 24) : namesL[j]? = some (.str (nameB (j + 1))) := by
  have : ((List.range 24).all fun j => match namesL[j]? with | some (.str s) => s.data.toList == (nameB (j + 1)).data.toList | _ => false) = true := by decide +kernel
  have h' := List.all_eq_true.1 this j (List.mem_range.2 h)
  split at h'
  · rename_i s hs
    rw [hs]
    have e : s.data.toList = (nameB (j + 1)).data.toList := by simpa using h'
    congr 2
    generalize nameB (j + 1) = y at *
    cases s; cases y; simp only at e; exact congrArg _ (Array.toList_inj.1 e)
  · cases h'
theorem nms_fill0 : fillEv (zerosEv [.str ⟨#[]⟩] (24 * 1)) [(0 * 1, 1, .str ⟨#[104, 97, 108, 116]⟩), (1 * 1, 1, .str ⟨#[112, 117, 115, 104]⟩), (2 * 1, 1, .str ⟨#[112, 111, 112]⟩), (3 * 1, 1, .str ⟨#[108, 100]⟩), (4 * 1, 1, .str ⟨#[115, 116]⟩), (5 * 1, 1, .str ⟨#[108, 100, 120]⟩), (6 * 1, 1, .str ⟨#[115, 116, 120]⟩), (7 * 1, 1, .str ⟨#[108, 100, 108]⟩), (8 * 1, 1, .str ⟨#[115, 116, 108]⟩), (9 * 1, 1, .str ⟨#[105, 110]⟩), (10 * 1, 1, .str ⟨#[111, 117, 116]⟩), (11 * 1, 1, .str ⟨#[98, 105, 110]⟩), (12 * 1, 1, .str ⟨#[117, 110]⟩), (13 * 1, 1, .str ⟨#[99, 117, 116]⟩), (14 * 1, 1, .str ⟨#[106, 109, 112]⟩), (15 * 1, 1, .str ⟨#[106, 122]⟩), (16 * 1, 1, .str ⟨#[99, 97, 108, 108]⟩), (17 * 1, 1, .str ⟨#[114, 101, 116]⟩), (18 * 1, 1, .str ⟨#[101, 110]⟩), (19 * 1, 1, .str ⟨#[100, 105, 115]⟩), (20 * 1, 1, .str ⟨#[108, 118, 108]⟩), (21 * 1, 1, .str ⟨#[112, 116]⟩), (22 * 1, 1, .str ⟨#[98, 101, 103]⟩), (23 * 1, 1, .str ⟨#[101, 110, 100]⟩)] = some namesL := by kernel_rfl
theorem nms_fill' (call : Caller) (s : St) : opEv call (.mkslc 1 24 [(.str ⟨#[]⟩)] [(0, (.val (.str ⟨#[104, 97, 108, 116]⟩))), (1, (.val (.str ⟨#[112, 117, 115, 104]⟩))), (2, (.val (.str ⟨#[112, 111, 112]⟩))), (3, (.val (.str ⟨#[108, 100]⟩))), (4, (.val (.str ⟨#[115, 116]⟩))), (5, (.val (.str ⟨#[108, 100, 120]⟩))), (6, (.val (.str ⟨#[115, 116, 120]⟩))), (7, (.val (.str ⟨#[108, 100, 108]⟩))), (8, (.val (.str ⟨#[115, 116, 108]⟩))), (9, (.val (.str ⟨#[105, 110]⟩))), (10, (.val (.str ⟨#[111, 117, 116]⟩))), (11, (.val (.str ⟨#[98, 105, 110]⟩))), (12, (.val (.str ⟨#[117, 110]⟩))), (13, (.val (.str ⟨#[99, 117, 116]⟩))), (14, (.val (.str ⟨#[106, 109, 112]⟩))), (15, (.val (.str ⟨#[106, 122]⟩))), (16, (.val (.str ⟨#[99, 97, 108, 108]⟩))), (17, (.val (.str ⟨#[114, 101, 116]⟩))), (18, (.val (.str ⟨#[101, 110]⟩))), (19, (.val (.str ⟨#[100, 105, 115]⟩))), (20, (.val (.str ⟨#[108, 118, 108]⟩))), (21, (.val (.str ⟨#[112, 116]⟩))), (22, (.val (.str ⟨#[98, 101, 103]⟩))), (23, (.val (.str ⟨#[101, 110, 100]⟩)))]) s = if s.m.full then none else some (.slice s.m.n 0 24 (some 24) 1, { s with m := s.m.push (.cells namesL true) }) := by
  rw [opE_mkslc, if_pos (by decide)]
  have h := nms_fill0
  simp only [List.map, St.opd]
  rw [h]
theorem rnames_run (N : Nat) (hN : 1 ≤ N) (m : Mem) (hmn : m.n + 1 ≤ 2 ^ depth) : run A N 24 [] m = some (.slice m.n 0 24 (some 24) 1, m.push (.cells namesL true)) := by
  obtain ⟨n, rfl⟩ : ∃ n, N = n + 1 := ⟨N - 1, by omega⟩
  have hf : m.full = false := not_full (by omega)
  rw [run_24]
  unfold fnEv a24
  simp only [codeEv, opsEv, oneEv, guardEv, opE_mov, nms_fill', St.opd, look_set, look_nil, St.put, argsT, resEv, loc_slice, keepL, List.map, List.length, Nat.reduceLT, if_true, if_false, Bool.false_eq_true, Nat.succ_ne_self, keepT_setT, hf]
def catR (s : ByteArray) (w x : Int) : ByteArray := if w = 0 then s else if w = 5 then s ++ ⟨#[32]⟩ ++ signI x else if w = 6 then s ++ ⟨#[32]⟩ ++ unI x else s ++ ⟨#[32]⟩ ++ itoaB x.toNat
theorem size_list' (s : ByteArray) : s.data.toList.length = s.size := by rw [Array.length_toList]; rfl
theorem itoa_len (n : Nat) : (itoaB n).data.toList.length ≤ 20 := by
  show (digs 20 n).length ≤ 20
  exact digs_len 20 n
theorem sz32 : (ByteArray.mk #[32]).size = 1 := rfl
theorem str_add' (x y : ByteArray) (h : x.size + y.size < 1000000) : binEv .add (.str x) (.str y) = some (.str (x ++ y)) := by
  show (if ((x.size + y.size : Nat) : Int) > IntKind.i64.max then none else some (AV.str (x ++ y))) = _
  rw [if_neg (by have : IntKind.i64.max = 9223372036854775807 := rfl
                 omega)]
theorem signI_size (x : Int) : (signI x).size ≤ 20 := by
  unfold signI
  split
  · rename_i h
    have := List.all_eq_true.1 signs_len x.toNat (List.mem_range.2 (by omega))
    rw [← size_list']
    exact of_decide_eq_true this
  · exact Nat.zero_le _
theorem unI_size (x : Int) : (unI x).size ≤ 20 := by
  unfold unI
  split
  · rw [← size_list']
    exact unB_len _
  · exact Nat.zero_le _
theorem itoaB_size (n : Nat) : (itoaB n).size ≤ 20 := by
  rw [← size_list']
  exact itoa_len n

theorem b22_0_0 (N : Nat) (_hN : 2 ≤ N) (again : AC → St → Option (Ex × St)) (s : ByteArray) (_hs : s.size ≤ 1000) (w1 w2 w3 a b c : Int) (m : Mem) (_hT : Tab2 m) (_hmn : m.n + 1 ≤ 2 ^ depth) (T : List (Nat × AV)) (L : List (Nat × List AV)) (hL : lookL L 4 = some [.int .i64 w1, .int .i64 w2, .int .i64 w3]) (hL5 : lookL L 5 = some [.int .i64 a, .int .i64 b, .int .i64 c]) (hk : keepT [3, 4, 5, 6] [4, 5] T = [(3, .str s), (4, .loc 4 0), (5, .loc 5 0), (6, .int .i64 0)]) (hw : w1 = 0) : ∃ T' L', codeEv (run A N) again a22_B1 ⟨61, T, L, m⟩ = some (.norm, ⟨61, T', L', m⟩) ∧ lookL L' 4 = some [.int .i64 w1, .int .i64 w2, .int .i64 w3] ∧ lookL L' 5 = some [.int .i64 a, .int .i64 b, .int .i64 c] ∧ keepT [3, 4, 5, 6] [4, 5] T' = [(3, .str s), (4, .loc 4 0), (5, .loc 5 0), (6, .int .i64 1)] := by
  subst hw
  unfold a22_B1
  exact ⟨_, _, by simp only [codeEv, opsEv, oneEv, guardEv, opE_mov, opE_load1, opE_bin, opE_call, St.opd, look_set, look_nil, look_cons, St.put, St.read, lookL_nil, lookL_cons, cellsAt_cons, bin_ilt, bin_ieq, in_int, in_str, in_loc, List.contains_cons, List.contains_nil, callWith, keepL, List.map, List.length, List.take, List.drop, List.any, List.take_succ_cons, Option.map_some, Nat.reduceEqDiff, Int.reduceEq, Int.reduceLT, Int.reduceLE, Nat.reduceAdd, Nat.reduceLeDiff, Nat.reduceLT, if_true, if_false, Bool.or_true, Bool.or_false, Bool.true_or, beq_self_eq_true, Bool.false_eq_true, Nat.succ_ne_self, decide_true, decide_false, keepT_setT, List.take_succ_cons, and_self, Int.toNat_zero, n3, Nat.zero_mul, opE_iaddrA, iaR_loc, ad0, hk, hL, hL5]; rfl, by simp only [lookL_cons, Nat.reduceEqDiff, if_true, if_false], by simp only [lookL_cons, Nat.reduceEqDiff, if_true, if_false], by simp only [keepT, List.map, look_set, look_cons, in_int, in_str, in_loc, Nat.reduceEqDiff, if_true, if_false, List.contains_cons, List.contains_nil, beq_self_eq_true, Bool.or_false, Bool.or_true, Bool.true_or]⟩
theorem b22_0_5 (N : Nat) (hN : 2 ≤ N) (again : AC → St → Option (Ex × St)) (s : ByteArray) (hs : s.size ≤ 1000) (w1 w2 w3 a b c : Int) (m : Mem) (_hT : Tab2 m) (hmn : m.n + 1 ≤ 2 ^ depth) (T : List (Nat × AV)) (L : List (Nat × List AV)) (hL : lookL L 4 = some [.int .i64 w1, .int .i64 w2, .int .i64 w3]) (hL5 : lookL L 5 = some [.int .i64 a, .int .i64 b, .int .i64 c]) (hk : keepT [3, 4, 5, 6] [4, 5] T = [(3, .str s), (4, .loc 4 0), (5, .loc 5 0), (6, .int .i64 0)]) (hw : w1 = 5) : ∃ T' L', codeEv (run A N) again a22_B1 ⟨61, T, L, m⟩ = some (.norm, ⟨61, T', L', m.push (.cells signs true)⟩) ∧ lookL L' 4 = some [.int .i64 w1, .int .i64 w2, .int .i64 w3] ∧ lookL L' 5 = some [.int .i64 a, .int .i64 b, .int .i64 c] ∧ keepT [3, 4, 5, 6] [4, 5] T' = [(3, .str (s ++ ⟨#[32]⟩ ++ signI a)), (4, .loc 4 0), (5, .loc 5 0), (6, .int .i64 1)] := by
  subst hw
  have hc := sgn_run N (by omega) a m hmn
  have z := signI_size a
  have a1 := str_add' s ⟨#[32]⟩ (by rw [sz32]; omega)
  have a2 := str_add' (s ++ ⟨#[32]⟩) (signI a) (by rw [ByteArray.size_append, sz32]; omega)
  unfold a22_B1
  exact ⟨_, _, by simp only [codeEv, opsEv, oneEv, guardEv, opE_mov, opE_load1, opE_bin, opE_call, St.opd, look_set, look_nil, look_cons, St.put, St.read, lookL_nil, lookL_cons, cellsAt_cons, bin_ilt, bin_ieq, in_int, in_str, in_loc, List.contains_cons, List.contains_nil, loc_int, callWith, keepL, List.map, List.length, List.take, List.drop, List.any, List.take_succ_cons, Option.map_some, Nat.reduceEqDiff, Int.reduceEq, Int.reduceLT, Int.reduceLE, Nat.reduceAdd, Nat.reduceLeDiff, Nat.reduceLT, if_true, if_false, Bool.or_true, Bool.or_false, Bool.true_or, beq_self_eq_true, Bool.false_eq_true, Nat.succ_ne_self, decide_true, decide_false, keepT_setT, List.take_succ_cons, and_self, Int.toNat_zero, n3, Nat.zero_mul, opE_iaddrA, iaR_loc, ad0, hk, hL, hL5, hc, a1, a2]; rfl, by simp only [lookL_cons, Nat.reduceEqDiff, if_true, if_false], by simp only [lookL_cons, Nat.reduceEqDiff, if_true, if_false], by simp only [keepT, List.map, look_set, look_cons, in_int, in_str, in_loc, Nat.reduceEqDiff, if_true, if_false, List.contains_cons, List.contains_nil, beq_self_eq_true, Bool.or_false, Bool.or_true, Bool.true_or]⟩
theorem b22_0_6 (N : Nat) (hN : 2 ≤ N) (again : AC → St → Option (Ex × St)) (s : ByteArray) (hs : s.size ≤ 1000) (w1 w2 w3 a b c : Int) (m : Mem) (_hT : Tab2 m) (hmn : m.n + 1 ≤ 2 ^ depth) (T : List (Nat × AV)) (L : List (Nat × List AV)) (hL : lookL L 4 = some [.int .i64 w1, .int .i64 w2, .int .i64 w3]) (hL5 : lookL L 5 = some [.int .i64 a, .int .i64 b, .int .i64 c]) (hk : keepT [3, 4, 5, 6] [4, 5] T = [(3, .str s), (4, .loc 4 0), (5, .loc 5 0), (6, .int .i64 0)]) (hw : w1 = 6) : ∃ T' L', codeEv (run A N) again a22_B1 ⟨61, T, L, m⟩ = some (.norm, ⟨61, T', L', m.push (.cells uns true)⟩) ∧ lookL L' 4 = some [.int .i64 w1, .int .i64 w2, .int .i64 w3] ∧ lookL L' 5 = some [.int .i64 a, .int .i64 b, .int .i64 c] ∧ keepT [3, 4, 5, 6] [4, 5] T' = [(3, .str (s ++ ⟨#[32]⟩ ++ unI a)), (4, .loc 4 0), (5, .loc 5 0), (6, .int .i64 1)] := by
  subst hw
  have hc := nam_run N (by omega) a m hmn
  have z := unI_size a
  have a1 := str_add' s ⟨#[32]⟩ (by rw [sz32]; omega)
  have a2 := str_add' (s ++ ⟨#[32]⟩) (unI a) (by rw [ByteArray.size_append, sz32]; omega)
  unfold a22_B1
  exact ⟨_, _, by simp only [codeEv, opsEv, oneEv, guardEv, opE_mov, opE_load1, opE_bin, opE_call, St.opd, look_set, look_nil, look_cons, St.put, St.read, lookL_nil, lookL_cons, cellsAt_cons, bin_ilt, bin_ieq, in_int, in_str, in_loc, List.contains_cons, List.contains_nil, loc_int, callWith, keepL, List.map, List.length, List.take, List.drop, List.any, List.take_succ_cons, Option.map_some, Nat.reduceEqDiff, Int.reduceEq, Int.reduceLT, Int.reduceLE, Nat.reduceAdd, Nat.reduceLeDiff, Nat.reduceLT, if_true, if_false, Bool.or_true, Bool.or_false, Bool.true_or, beq_self_eq_true, Bool.false_eq_true, Nat.succ_ne_self, decide_true, decide_false, keepT_setT, List.take_succ_cons, and_self, Int.toNat_zero, n3, Nat.zero_mul, opE_iaddrA, iaR_loc, ad0, hk, hL, hL5, hc, a1, a2]; rfl, by simp only [lookL_cons, Nat.reduceEqDiff, if_true, if_false], by simp only [lookL_cons, Nat.reduceEqDiff, if_true, if_false], by simp only [keepT, List.map, look_set, look_cons, in_int, in_str, in_loc, Nat.reduceEqDiff, if_true, if_false, List.contains_cons, List.contains_nil, beq_self_eq_true, Bool.or_false, Bool.or_true, Bool.true_or]⟩
theorem b22_0_n (N : Nat) (hN : 2 ≤ N) (again : AC → St → Option (Ex × St)) (s : ByteArray) (hs : s.size ≤ 1000) (w1 w2 w3 a b c : Int) (m : Mem) (hT : Tab2 m) (_hmn : m.n + 1 ≤ 2 ^ depth) (T : List (Nat × AV)) (L : List (Nat × List AV)) (hL : lookL L 4 = some [.int .i64 w1, .int .i64 w2, .int .i64 w3]) (hL5 : lookL L 5 = some [.int .i64 a, .int .i64 b, .int .i64 c]) (hk : keepT [3, 4, 5, 6] [4, 5] T = [(3, .str s), (4, .loc 4 0), (5, .loc 5 0), (6, .int .i64 0)]) (hw0 : ¬ w1 = 0) (hw5 : ¬ w1 = 5) (hw6 : ¬ w1 = 6) (hx : 0 ≤ a ∧ a ≤ 4294967295) : ∃ T' L', codeEv (run A N) again a22_B1 ⟨61, T, L, m⟩ = some (.norm, ⟨61, T', L', m⟩) ∧ lookL L' 4 = some [.int .i64 w1, .int .i64 w2, .int .i64 w3] ∧ lookL L' 5 = some [.int .i64 a, .int .i64 b, .int .i64 c] ∧ keepT [3, 4, 5, 6] [4, 5] T' = [(3, .str (s ++ ⟨#[32]⟩ ++ itoaB (a).toNat)), (4, .loc 4 0), (5, .loc 5 0), (6, .int .i64 1)] := by
  have hc := itoa_at (N - 1) a m hT hx
  rw [show N - 1 + 1 = N by omega] at hc
  have z := itoaB_size (a).toNat
  have a1 := str_add' s ⟨#[32]⟩ (by rw [sz32]; omega)
  have a2 := str_add' (s ++ ⟨#[32]⟩) (itoaB (a).toNat) (by rw [ByteArray.size_append, sz32]; omega)
  unfold a22_B1
  exact ⟨_, _, by simp only [codeEv, opsEv, oneEv, guardEv, opE_mov, opE_load1, opE_bin, opE_call, St.opd, look_set, look_nil, look_cons, St.put, St.read, lookL_nil, lookL_cons, cellsAt_cons, bin_ilt, bin_ieq, in_int, in_str, in_loc, List.contains_cons, List.contains_nil, loc_int, callWith, keepL, List.map, List.length, List.take, List.drop, List.any, List.take_succ_cons, Option.map_some, Nat.reduceEqDiff, Int.reduceLT, Int.reduceLE, Nat.reduceAdd, Nat.reduceLeDiff, Nat.reduceLT, if_true, if_false, Bool.or_true, Bool.or_false, Bool.true_or, beq_self_eq_true, Bool.false_eq_true, Nat.succ_ne_self, decide_true, decide_false, keepT_setT, List.take_succ_cons, and_self, Int.toNat_zero, n3, Nat.zero_mul, opE_iaddrA, iaR_loc, ad0, hk, hL, hL5, hc, a1, a2, hw0, hw5, hw6]; rfl, by simp only [lookL_cons, Nat.reduceEqDiff, if_true, if_false], by simp only [lookL_cons, Nat.reduceEqDiff, if_true, if_false], by simp only [keepT, List.map, look_set, look_cons, in_int, in_str, in_loc, Nat.reduceEqDiff, if_true, if_false, List.contains_cons, List.contains_nil, beq_self_eq_true, Bool.or_false, Bool.or_true, Bool.true_or]⟩

theorem b22_0 (N : Nat) (hN : 2 ≤ N) (again : AC → St → Option (Ex × St)) (s : ByteArray) (hs : s.size ≤ 1000) (w1 w2 w3 a b c : Int) (m : Mem) (hT : Tab2 m) (hmn : m.n + 1 ≤ 2 ^ depth) (T : List (Nat × AV)) (L : List (Nat × List AV)) (hL : lookL L 4 = some [.int .i64 w1, .int .i64 w2, .int .i64 w3]) (hL5 : lookL L 5 = some [.int .i64 a, .int .i64 b, .int .i64 c]) (hk : keepT [3, 4, 5, 6] [4, 5] T = [(3, .str s), (4, .loc 4 0), (5, .loc 5 0), (6, .int .i64 0)]) (hx : w1 = 0 ∨ w1 = 5 ∨ w1 = 6 ∨ 0 ≤ a ∧ a ≤ 4294967295) : ∃ T' L' m', codeEv (run A N) again a22_B1 ⟨61, T, L, m⟩ = some (.norm, ⟨61, T', L', m'⟩) ∧ lookL L' 4 = some [.int .i64 w1, .int .i64 w2, .int .i64 w3] ∧ lookL L' 5 = some [.int .i64 a, .int .i64 b, .int .i64 c] ∧ keepT [3, 4, 5, 6] [4, 5] T' = [(3, .str (catR s w1 a)), (4, .loc 4 0), (5, .loc 5 0), (6, .int .i64 1)] ∧ Gr m m' 1 ∧ (catR s w1 a).size ≤ s.size + 21 := by
  unfold catR
  by_cases h0 : w1 = 0
  · obtain ⟨T', L', e1, e2, e3, e4⟩ := b22_0_0 N hN again s hs w1 w2 w3 a b c m hT hmn T L hL hL5 hk h0
    exact ⟨T', L', m, e1, e2, e3, by rw [if_pos h0]; exact e4, (Gr.refl m).le (by omega), by rw [if_pos h0]; omega⟩
  by_cases h5 : w1 = 5
  · obtain ⟨T', L', e1, e2, e3, e4⟩ := b22_0_5 N hN again s hs w1 w2 w3 a b c m hT hmn T L hL hL5 hk h5
    have z := signI_size a
    exact ⟨T', L', _, e1, e2, e3, by rw [if_neg h0, if_pos h5]; exact e4, Gr.push m _ (by omega), by rw [if_neg h0, if_pos h5, ByteArray.size_append, ByteArray.size_append, sz32]; omega⟩
  by_cases h6 : w1 = 6
  · obtain ⟨T', L', e1, e2, e3, e4⟩ := b22_0_6 N hN again s hs w1 w2 w3 a b c m hT hmn T L hL hL5 hk h6
    have z := unI_size a
    exact ⟨T', L', _, e1, e2, e3, by rw [if_neg h0, if_neg h5, if_pos h6]; exact e4, Gr.push m _ (by omega), by rw [if_neg h0, if_neg h5, if_pos h6, ByteArray.size_append, ByteArray.size_append, sz32]; omega⟩
  · obtain ⟨T', L', e1, e2, e3, e4⟩ := b22_0_n N hN again s hs w1 w2 w3 a b c m hT hmn T L hL hL5 hk h0 h5 h6 (by omega)
    have z := itoaB_size (a).toNat
    exact ⟨T', L', m, e1, e2, e3, by rw [if_neg h0, if_neg h5, if_neg h6]; exact e4, (Gr.refl m).le (by omega), by rw [if_neg h0, if_neg h5, if_neg h6, ByteArray.size_append, ByteArray.size_append, sz32]; omega⟩

theorem b22_1_0 (N : Nat) (_hN : 2 ≤ N) (again : AC → St → Option (Ex × St)) (s : ByteArray) (_hs : s.size ≤ 1000) (w1 w2 w3 a b c : Int) (m : Mem) (_hT : Tab2 m) (_hmn : m.n + 1 ≤ 2 ^ depth) (T : List (Nat × AV)) (L : List (Nat × List AV)) (hL : lookL L 4 = some [.int .i64 w1, .int .i64 w2, .int .i64 w3]) (hL5 : lookL L 5 = some [.int .i64 a, .int .i64 b, .int .i64 c]) (hk : keepT [3, 4, 5, 6] [4, 5] T = [(3, .str s), (4, .loc 4 0), (5, .loc 5 0), (6, .int .i64 1)]) (hw : w2 = 0) : ∃ T' L', codeEv (run A N) again a22_B1 ⟨61, T, L, m⟩ = some (.norm, ⟨61, T', L', m⟩) ∧ lookL L' 4 = some [.int .i64 w1, .int .i64 w2, .int .i64 w3] ∧ lookL L' 5 = some [.int .i64 a, .int .i64 b, .int .i64 c] ∧ keepT [3, 4, 5, 6] [4, 5] T' = [(3, .str s), (4, .loc 4 0), (5, .loc 5 0), (6, .int .i64 2)] := by
  subst hw
  unfold a22_B1
  exact ⟨_, _, by simp only [codeEv, opsEv, oneEv, guardEv, opE_mov, opE_load1, opE_bin, opE_call, St.opd, look_set, look_nil, look_cons, St.put, St.read, lookL_nil, lookL_cons, cellsAt_cons, bin_ilt, bin_ieq, in_int, in_str, in_loc, List.contains_cons, List.contains_nil, callWith, keepL, List.map, List.length, List.take, List.drop, List.any, List.take_succ_cons, Option.map_some, Nat.reduceEqDiff, Int.reduceEq, Int.reduceLT, Int.reduceLE, Nat.reduceAdd, Nat.reduceLeDiff, Nat.reduceLT, if_true, if_false, Bool.or_true, Bool.or_false, Bool.true_or, beq_self_eq_true, Bool.false_eq_true, Nat.succ_ne_self, decide_true, decide_false, keepT_setT, List.take_succ_cons, Int.reduceToNat, and_self, n3, Nat.one_mul, opE_iaddrA, iaR_loc, ad1, hk, hL, hL5]; rfl, by simp only [lookL_cons, Nat.reduceEqDiff, if_true, if_false], by simp only [lookL_cons, Nat.reduceEqDiff, if_true, if_false], by simp only [keepT, List.map, look_set, look_cons, in_int, in_str, in_loc, Nat.reduceEqDiff, if_true, if_false, List.contains_cons, List.contains_nil, beq_self_eq_true, Bool.or_false, Bool.or_true, Bool.true_or]⟩
theorem b22_1_5 (N : Nat) (hN : 2 ≤ N) (again : AC → St → Option (Ex × St)) (s : ByteArray) (hs : s.size ≤ 1000) (w1 w2 w3 a b c : Int) (m : Mem) (_hT : Tab2 m) (hmn : m.n + 1 ≤ 2 ^ depth) (T : List (Nat × AV)) (L : List (Nat × List AV)) (hL : lookL L 4 = some [.int .i64 w1, .int .i64 w2, .int .i64 w3]) (hL5 : lookL L 5 = some [.int .i64 a, .int .i64 b, .int .i64 c]) (hk : keepT [3, 4, 5, 6] [4, 5] T = [(3, .str s), (4, .loc 4 0), (5, .loc 5 0), (6, .int .i64 1)]) (hw : w2 = 5) : ∃ T' L', codeEv (run A N) again a22_B1 ⟨61, T, L, m⟩ = some (.norm, ⟨61, T', L', m.push (.cells signs true)⟩) ∧ lookL L' 4 = some [.int .i64 w1, .int .i64 w2, .int .i64 w3] ∧ lookL L' 5 = some [.int .i64 a, .int .i64 b, .int .i64 c] ∧ keepT [3, 4, 5, 6] [4, 5] T' = [(3, .str (s ++ ⟨#[32]⟩ ++ signI b)), (4, .loc 4 0), (5, .loc 5 0), (6, .int .i64 2)] := by
  subst hw
  have hc := sgn_run N (by omega) b m hmn
  have z := signI_size b
  have a1 := str_add' s ⟨#[32]⟩ (by rw [sz32]; omega)
  have a2 := str_add' (s ++ ⟨#[32]⟩) (signI b) (by rw [ByteArray.size_append, sz32]; omega)
  unfold a22_B1
  exact ⟨_, _, by simp only [codeEv, opsEv, oneEv, guardEv, opE_mov, opE_load1, opE_bin, opE_call, St.opd, look_set, look_nil, look_cons, St.put, St.read, lookL_nil, lookL_cons, cellsAt_cons, bin_ilt, bin_ieq, in_int, in_str, in_loc, List.contains_cons, List.contains_nil, loc_int, callWith, keepL, List.map, List.length, List.take, List.drop, List.any, List.take_succ_cons, Option.map_some, Nat.reduceEqDiff, Int.reduceEq, Int.reduceLT, Int.reduceLE, Nat.reduceAdd, Nat.reduceLeDiff, Nat.reduceLT, if_true, if_false, Bool.or_true, Bool.or_false, Bool.true_or, beq_self_eq_true, Bool.false_eq_true, Nat.succ_ne_self, decide_true, decide_false, keepT_setT, List.take_succ_cons, Int.reduceToNat, and_self, n3, Nat.one_mul, opE_iaddrA, iaR_loc, ad1, hk, hL, hL5, hc, a1, a2]; rfl, by simp only [lookL_cons, Nat.reduceEqDiff, if_true, if_false], by simp only [lookL_cons, Nat.reduceEqDiff, if_true, if_false], by simp only [keepT, List.map, look_set, look_cons, in_int, in_str, in_loc, Nat.reduceEqDiff, if_true, if_false, List.contains_cons, List.contains_nil, beq_self_eq_true, Bool.or_false, Bool.or_true, Bool.true_or]⟩
theorem b22_1_6 (N : Nat) (hN : 2 ≤ N) (again : AC → St → Option (Ex × St)) (s : ByteArray) (hs : s.size ≤ 1000) (w1 w2 w3 a b c : Int) (m : Mem) (_hT : Tab2 m) (hmn : m.n + 1 ≤ 2 ^ depth) (T : List (Nat × AV)) (L : List (Nat × List AV)) (hL : lookL L 4 = some [.int .i64 w1, .int .i64 w2, .int .i64 w3]) (hL5 : lookL L 5 = some [.int .i64 a, .int .i64 b, .int .i64 c]) (hk : keepT [3, 4, 5, 6] [4, 5] T = [(3, .str s), (4, .loc 4 0), (5, .loc 5 0), (6, .int .i64 1)]) (hw : w2 = 6) : ∃ T' L', codeEv (run A N) again a22_B1 ⟨61, T, L, m⟩ = some (.norm, ⟨61, T', L', m.push (.cells uns true)⟩) ∧ lookL L' 4 = some [.int .i64 w1, .int .i64 w2, .int .i64 w3] ∧ lookL L' 5 = some [.int .i64 a, .int .i64 b, .int .i64 c] ∧ keepT [3, 4, 5, 6] [4, 5] T' = [(3, .str (s ++ ⟨#[32]⟩ ++ unI b)), (4, .loc 4 0), (5, .loc 5 0), (6, .int .i64 2)] := by
  subst hw
  have hc := nam_run N (by omega) b m hmn
  have z := unI_size b
  have a1 := str_add' s ⟨#[32]⟩ (by rw [sz32]; omega)
  have a2 := str_add' (s ++ ⟨#[32]⟩) (unI b) (by rw [ByteArray.size_append, sz32]; omega)
  unfold a22_B1
  exact ⟨_, _, by simp only [codeEv, opsEv, oneEv, guardEv, opE_mov, opE_load1, opE_bin, opE_call, St.opd, look_set, look_nil, look_cons, St.put, St.read, lookL_nil, lookL_cons, cellsAt_cons, bin_ilt, bin_ieq, in_int, in_str, in_loc, List.contains_cons, List.contains_nil, loc_int, callWith, keepL, List.map, List.length, List.take, List.drop, List.any, List.take_succ_cons, Option.map_some, Nat.reduceEqDiff, Int.reduceEq, Int.reduceLT, Int.reduceLE, Nat.reduceAdd, Nat.reduceLeDiff, Nat.reduceLT, if_true, if_false, Bool.or_true, Bool.or_false, Bool.true_or, beq_self_eq_true, Bool.false_eq_true, Nat.succ_ne_self, decide_true, decide_false, keepT_setT, List.take_succ_cons, Int.reduceToNat, and_self, n3, Nat.one_mul, opE_iaddrA, iaR_loc, ad1, hk, hL, hL5, hc, a1, a2]; rfl, by simp only [lookL_cons, Nat.reduceEqDiff, if_true, if_false], by simp only [lookL_cons, Nat.reduceEqDiff, if_true, if_false], by simp only [keepT, List.map, look_set, look_cons, in_int, in_str, in_loc, Nat.reduceEqDiff, if_true, if_false, List.contains_cons, List.contains_nil, beq_self_eq_true, Bool.or_false, Bool.or_true, Bool.true_or]⟩
theorem b22_1_n (N : Nat) (hN : 2 ≤ N) (again : AC → St → Option (Ex × St)) (s : ByteArray) (hs : s.size ≤ 1000) (w1 w2 w3 a b c : Int) (m : Mem) (hT : Tab2 m) (_hmn : m.n + 1 ≤ 2 ^ depth) (T : List (Nat × AV)) (L : List (Nat × List AV)) (hL : lookL L 4 = some [.int .i64 w1, .int .i64 w2, .int .i64 w3]) (hL5 : lookL L 5 = some [.int .i64 a, .int .i64 b, .int .i64 c]) (hk : keepT [3, 4, 5, 6] [4, 5] T = [(3, .str s), (4, .loc 4 0), (5, .loc 5 0), (6, .int .i64 1)]) (hw0 : ¬ w2 = 0) (hw5 : ¬ w2 = 5) (hw6 : ¬ w2 = 6) (hx : 0 ≤ b ∧ b ≤ 4294967295) : ∃ T' L', codeEv (run A N) again a22_B1 ⟨61, T, L, m⟩ = some (.norm, ⟨61, T', L', m⟩) ∧ lookL L' 4 = some [.int .i64 w1, .int .i64 w2, .int .i64 w3] ∧ lookL L' 5 = some [.int .i64 a, .int .i64 b, .int .i64 c] ∧ keepT [3, 4, 5, 6] [4, 5] T' = [(3, .str (s ++ ⟨#[32]⟩ ++ itoaB (b).toNat)), (4, .loc 4 0), (5, .loc 5 0), (6, .int .i64 2)] := by
  have hc := itoa_at (N - 1) b m hT hx
  rw [show N - 1 + 1 = N by omega] at hc
  have z := itoaB_size (b).toNat
  have a1 := str_add' s ⟨#[32]⟩ (by rw [sz32]; omega)
  have a2 := str_add' (s ++ ⟨#[32]⟩) (itoaB (b).toNat) (by rw [ByteArray.size_append, sz32]; omega)
  unfold a22_B1
  exact ⟨_, _, by simp only [codeEv, opsEv, oneEv, guardEv, opE_mov, opE_load1, opE_bin, opE_call, St.opd, look_set, look_nil, look_cons, St.put, St.read, lookL_nil, lookL_cons, cellsAt_cons, bin_ilt, bin_ieq, in_int, in_str, in_loc, List.contains_cons, List.contains_nil, loc_int, callWith, keepL, List.map, List.length, List.take, List.drop, List.any, List.take_succ_cons, Option.map_some, Nat.reduceEqDiff, Int.reduceLT, Int.reduceLE, Nat.reduceAdd, Nat.reduceLeDiff, Nat.reduceLT, if_true, if_false, Bool.or_true, Bool.or_false, Bool.true_or, beq_self_eq_true, Bool.false_eq_true, Nat.succ_ne_self, decide_true, decide_false, keepT_setT, List.take_succ_cons, Int.reduceToNat, and_self, n3, Nat.one_mul, opE_iaddrA, iaR_loc, ad1, hk, hL, hL5, hc, a1, a2, hw0, hw5, hw6]; rfl, by simp only [lookL_cons, Nat.reduceEqDiff, if_true, if_false], by simp only [lookL_cons, Nat.reduceEqDiff, if_true, if_false], by simp only [keepT, List.map, look_set, look_cons, in_int, in_str, in_loc, Nat.reduceEqDiff, if_true, if_false, List.contains_cons, List.contains_nil, beq_self_eq_true, Bool.or_false, Bool.or_true, Bool.true_or]⟩

theorem b22_1 (N : Nat) (hN : 2 ≤ N) (again : AC → St → Option (Ex × St)) (s : ByteArray) (hs : s.size ≤ 1000) (w1 w2 w3 a b c : Int) (m : Mem) (hT : Tab2 m) (hmn : m.n + 1 ≤ 2 ^ depth) (T : List (Nat × AV)) (L : List (Nat × List AV)) (hL : lookL L 4 = some [.int .i64 w1, .int .i64 w2, .int .i64 w3]) (hL5 : lookL L 5 = some [.int .i64 a, .int .i64 b, .int .i64 c]) (hk : keepT [3, 4, 5, 6] [4, 5] T = [(3, .str s), (4, .loc 4 0), (5, .loc 5 0), (6, .int .i64 1)]) (hx : w2 = 0 ∨ w2 = 5 ∨ w2 = 6 ∨ 0 ≤ b ∧ b ≤ 4294967295) : ∃ T' L' m', codeEv (run A N) again a22_B1 ⟨61, T, L, m⟩ = some (.norm, ⟨61, T', L', m'⟩) ∧ lookL L' 4 = some [.int .i64 w1, .int .i64 w2, .int .i64 w3] ∧ lookL L' 5 = some [.int .i64 a, .int .i64 b, .int .i64 c] ∧ keepT [3, 4, 5, 6] [4, 5] T' = [(3, .str (catR s w2 b)), (4, .loc 4 0), (5, .loc 5 0), (6, .int .i64 2)] ∧ Gr m m' 1 ∧ (catR s w2 b).size ≤ s.size + 21 := by
  unfold catR
  by_cases h0 : w2 = 0
  · obtain ⟨T', L', e1, e2, e3, e4⟩ := b22_1_0 N hN again s hs w1 w2 w3 a b c m hT hmn T L hL hL5 hk h0
    exact ⟨T', L', m, e1, e2, e3, by rw [if_pos h0]; exact e4, (Gr.refl m).le (by omega), by rw [if_pos h0]; omega⟩
  by_cases h5 : w2 = 5
  · obtain ⟨T', L', e1, e2, e3, e4⟩ := b22_1_5 N hN again s hs w1 w2 w3 a b c m hT hmn T L hL hL5 hk h5
    have z := signI_size b
    exact ⟨T', L', _, e1, e2, e3, by rw [if_neg h0, if_pos h5]; exact e4, Gr.push m _ (by omega), by rw [if_neg h0, if_pos h5, ByteArray.size_append, ByteArray.size_append, sz32]; omega⟩
  by_cases h6 : w2 = 6
  · obtain ⟨T', L', e1, e2, e3, e4⟩ := b22_1_6 N hN again s hs w1 w2 w3 a b c m hT hmn T L hL hL5 hk h6
    have z := unI_size b
    exact ⟨T', L', _, e1, e2, e3, by rw [if_neg h0, if_neg h5, if_pos h6]; exact e4, Gr.push m _ (by omega), by rw [if_neg h0, if_neg h5, if_pos h6, ByteArray.size_append, ByteArray.size_append, sz32]; omega⟩
  · obtain ⟨T', L', e1, e2, e3, e4⟩ := b22_1_n N hN again s hs w1 w2 w3 a b c m hT hmn T L hL hL5 hk h0 h5 h6 (by omega)
    have z := itoaB_size (b).toNat
    exact ⟨T', L', m, e1, e2, e3, by rw [if_neg h0, if_neg h5, if_neg h6]; exact e4, (Gr.refl m).le (by omega), by rw [if_neg h0, if_neg h5, if_neg h6, ByteArray.size_append, ByteArray.size_append, sz32]; omega⟩

theorem b22_2_0 (N : Nat) (_hN : 2 ≤ N) (again : AC → St → Option (Ex × St)) (s : ByteArray) (_hs : s.size ≤ 1000) (w1 w2 w3 a b c : Int) (m : Mem) (_hT : Tab2 m) (_hmn : m.n + 1 ≤ 2 ^ depth) (T : List (Nat × AV)) (L : List (Nat × List AV)) (hL : lookL L 4 = some [.int .i64 w1, .int .i64 w2, .int .i64 w3]) (hL5 : lookL L 5 = some [.int .i64 a, .int .i64 b, .int .i64 c]) (hk : keepT [3, 4, 5, 6] [4, 5] T = [(3, .str s), (4, .loc 4 0), (5, .loc 5 0), (6, .int .i64 2)]) (hw : w3 = 0) : ∃ T' L', codeEv (run A N) again a22_B1 ⟨61, T, L, m⟩ = some (.norm, ⟨61, T', L', m⟩) ∧ lookL L' 4 = some [.int .i64 w1, .int .i64 w2, .int .i64 w3] ∧ lookL L' 5 = some [.int .i64 a, .int .i64 b, .int .i64 c] ∧ keepT [3, 4, 5, 6] [4, 5] T' = [(3, .str s), (4, .loc 4 0), (5, .loc 5 0), (6, .int .i64 3)] := by
  subst hw
  unfold a22_B1
  exact ⟨_, _, by simp only [codeEv, opsEv, oneEv, guardEv, opE_mov, opE_load1, opE_bin, opE_call, St.opd, look_set, look_nil, look_cons, St.put, St.read, lookL_nil, lookL_cons, cellsAt_cons, bin_ilt, bin_ieq, in_int, in_str, in_loc, List.contains_cons, List.contains_nil, callWith, keepL, List.map, List.length, List.take, List.drop, List.any, List.take_succ_cons, Option.map_some, Nat.reduceEqDiff, Int.reduceEq, Int.reduceLT, Int.reduceLE, Nat.reduceAdd, Nat.reduceLeDiff, Nat.reduceLT, Nat.reduceMul, if_true, if_false, Bool.or_true, Bool.or_false, Bool.true_or, beq_self_eq_true, Bool.false_eq_true, Nat.succ_ne_self, decide_true, decide_false, keepT_setT, List.take_succ_cons, Int.reduceToNat, and_self, n3, opE_iaddrA, iaR_loc, ad2, hk, hL, hL5]; rfl, by simp only [lookL_cons, Nat.reduceEqDiff, if_true, if_false], by simp only [lookL_cons, Nat.reduceEqDiff, if_true, if_false], by simp only [keepT, List.map, look_set, look_cons, in_int, in_str, in_loc, Nat.reduceEqDiff, if_true, if_false, List.contains_cons, List.contains_nil, beq_self_eq_true, Bool.or_false, Bool.or_true, Bool.true_or]⟩
theorem b22_2_5 (N : Nat) (hN : 2 ≤ N) (again : AC → St → Option (Ex × St)) (s : ByteArray) (hs : s.size ≤ 1000) (w1 w2 w3 a b c : Int) (m : Mem) (_hT : Tab2 m) (hmn : m.n + 1 ≤ 2 ^ depth) (T : List (Nat × AV)) (L : List (Nat × List AV)) (hL : lookL L 4 = some [.int .i64 w1, .int .i64 w2, .int .i64 w3]) (hL5 : lookL L 5 = some [.int .i64 a, .int .i64 b, .int .i64 c]) (hk : keepT [3, 4, 5, 6] [4, 5] T = [(3, .str s), (4, .loc 4 0), (5, .loc 5 0), (6, .int .i64 2)]) (hw : w3 = 5) : ∃ T' L', codeEv (run A N) again a22_B1 ⟨61, T, L, m⟩ = some (.norm, ⟨61, T', L', m.push (.cells signs true)⟩) ∧ lookL L' 4 = some [.int .i64 w1, .int .i64 w2, .int .i64 w3] ∧ lookL L' 5 = some [.int .i64 a, .int .i64 b, .int .i64 c] ∧ keepT [3, 4, 5, 6] [4, 5] T' = [(3, .str (s ++ ⟨#[32]⟩ ++ signI c)), (4, .loc 4 0), (5, .loc 5 0), (6, .int .i64 3)] := by
  subst hw
  have hc := sgn_run N (by omega) c m hmn
  have z := signI_size c
  have a1 := str_add' s ⟨#[32]⟩ (by rw [sz32]; omega)
  have a2 := str_add' (s ++ ⟨#[32]⟩) (signI c) (by rw [ByteArray.size_append, sz32]; omega)
  unfold a22_B1
  exact ⟨_, _, by simp only [codeEv, opsEv, oneEv, guardEv, opE_mov, opE_load1, opE_bin, opE_call, St.opd, look_set, look_nil, look_cons, St.put, St.read, lookL_nil, lookL_cons, cellsAt_cons, bin_ilt, bin_ieq, in_int, in_str, in_loc, List.contains_cons, List.contains_nil, loc_int, callWith, keepL, List.map, List.length, List.take, List.drop, List.any, List.take_succ_cons, Option.map_some, Nat.reduceEqDiff, Int.reduceEq, Int.reduceLT, Int.reduceLE, Nat.reduceAdd, Nat.reduceLeDiff, Nat.reduceLT, Nat.reduceMul, if_true, if_false, Bool.or_true, Bool.or_false, Bool.true_or, beq_self_eq_true, Bool.false_eq_true, Nat.succ_ne_self, decide_true, decide_false, keepT_setT, List.take_succ_cons, Int.reduceToNat, and_self, n3, opE_iaddrA, iaR_loc, ad2, hk, hL, hL5, hc, a1, a2]; rfl, by simp only [lookL_cons, Nat.reduceEqDiff, if_true, if_false], by simp only [lookL_cons, Nat.reduceEqDiff, if_true, if_false], by simp only [keepT, List.map, look_set, look_cons, in_int, in_str, in_loc, Nat.reduceEqDiff, if_true, if_false, List.contains_cons, List.contains_nil, beq_self_eq_true, Bool.or_false, Bool.or_true, Bool.true_or]⟩
theorem b22_2_6 (N : Nat) (hN : 2 ≤ N) (again : AC → St → Option (Ex × St)) (s : ByteArray) (hs : s.size ≤ 1000) (w1 w2 w3 a b c : Int) (m : Mem) (_hT : Tab2 m) (hmn : m.n + 1 ≤ 2 ^ depth) (T : List (Nat × AV)) (L : List (Nat × List AV)) (hL : lookL L 4 = some [.int .i64 w1, .int .i64 w2, .int .i64 w3]) (hL5 : lookL L 5 = some [.int .i64 a, .int .i64 b, .int .i64 c]) (hk : keepT [3, 4, 5, 6] [4, 5] T = [(3, .str s), (4, .loc 4 0), (5, .loc 5 0), (6, .int .i64 2)]) (hw : w3 = 6) : ∃ T' L', codeEv (run A N) again a22_B1 ⟨61, T, L, m⟩ = some (.norm, ⟨61, T', L', m.push (.cells uns true)⟩) ∧ lookL L' 4 = some [.int .i64 w1, .int .i64 w2, .int .i64 w3] ∧ lookL L' 5 = some [.int .i64 a, .int .i64 b, .int .i64 c] ∧ keepT [3, 4, 5, 6] [4, 5] T' = [(3, .str (s ++ ⟨#[32]⟩ ++ unI c)), (4, .loc 4 0), (5, .loc 5 0), (6, .int .i64 3)] := by
  subst hw
  have hc := nam_run N (by omega) c m hmn
  have z := unI_size c
  have a1 := str_add' s ⟨#[32]⟩ (by rw [sz32]; omega)
  have a2 := str_add' (s ++ ⟨#[32]⟩) (unI c) (by rw [ByteArray.size_append, sz32]; omega)
  unfold a22_B1
  exact ⟨_, _, by simp only [codeEv, opsEv, oneEv, guardEv, opE_mov, opE_load1, opE_bin, opE_call, St.opd, look_set, look_nil, look_cons, St.put, St.read, lookL_nil, lookL_cons, cellsAt_cons, bin_ilt, bin_ieq, in_int, in_str, in_loc, List.contains_cons, List.contains_nil, loc_int, callWith, keepL, List.map, List.length, List.take, List.drop, List.any, List.take_succ_cons, Option.map_some, Nat.reduceEqDiff, Int.reduceEq, Int.reduceLT, Int.reduceLE, Nat.reduceAdd, Nat.reduceLeDiff, Nat.reduceLT, Nat.reduceMul, if_true, if_false, Bool.or_true, Bool.or_false, Bool.true_or, beq_self_eq_true, Bool.false_eq_true, Nat.succ_ne_self, decide_true, decide_false, keepT_setT, List.take_succ_cons, Int.reduceToNat, and_self, n3, opE_iaddrA, iaR_loc, ad2, hk, hL, hL5, hc, a1, a2]; rfl, by simp only [lookL_cons, Nat.reduceEqDiff, if_true, if_false], by simp only [lookL_cons, Nat.reduceEqDiff, if_true, if_false], by simp only [keepT, List.map, look_set, look_cons, in_int, in_str, in_loc, Nat.reduceEqDiff, if_true, if_false, List.contains_cons, List.contains_nil, beq_self_eq_true, Bool.or_false, Bool.or_true, Bool.true_or]⟩
theorem b22_2_n (N : Nat) (hN : 2 ≤ N) (again : AC → St → Option (Ex × St)) (s : ByteArray) (hs : s.size ≤ 1000) (w1 w2 w3 a b c : Int) (m : Mem) (hT : Tab2 m) (_hmn : m.n + 1 ≤ 2 ^ depth) (T : List (Nat × AV)) (L : List (Nat × List AV)) (hL : lookL L 4 = some [.int .i64 w1, .int .i64 w2, .int .i64 w3]) (hL5 : lookL L 5 = some [.int .i64 a, .int .i64 b, .int .i64 c]) (hk : keepT [3, 4, 5, 6] [4, 5] T = [(3, .str s), (4, .loc 4 0), (5, .loc 5 0), (6, .int .i64 2)]) (hw0 : ¬ w3 = 0) (hw5 : ¬ w3 = 5) (hw6 : ¬ w3 = 6) (hx : 0 ≤ c ∧ c ≤ 4294967295) : ∃ T' L', codeEv (run A N) again a22_B1 ⟨61, T, L, m⟩ = some (.norm, ⟨61, T', L', m⟩) ∧ lookL L' 4 = some [.int .i64 w1, .int .i64 w2, .int .i64 w3] ∧ lookL L' 5 = some [.int .i64 a, .int .i64 b, .int .i64 c] ∧ keepT [3, 4, 5, 6] [4, 5] T' = [(3, .str (s ++ ⟨#[32]⟩ ++ itoaB (c).toNat)), (4, .loc 4 0), (5, .loc 5 0), (6, .int .i64 3)] := by
  have hc := itoa_at (N - 1) c m hT hx
  rw [show N - 1 + 1 = N by omega] at hc
  have z := itoaB_size (c).toNat
  have a1 := str_add' s ⟨#[32]⟩ (by rw [sz32]; omega)
  have a2 := str_add' (s ++ ⟨#[32]⟩) (itoaB (c).toNat) (by rw [ByteArray.size_append, sz32]; omega)
  unfold a22_B1
  exact ⟨_, _, by simp only [codeEv, opsEv, oneEv, guardEv, opE_mov, opE_load1, opE_bin, opE_call, St.opd, look_set, look_nil, look_cons, St.put, St.read, lookL_nil, lookL_cons, cellsAt_cons, bin_ilt, bin_ieq, in_int, in_str, in_loc, List.contains_cons, List.contains_nil, loc_int, callWith, keepL, List.map, List.length, List.take, List.drop, List.any, List.take_succ_cons, Option.map_some, Nat.reduceEqDiff, Int.reduceLT, Int.reduceLE, Nat.reduceAdd, Nat.reduceLeDiff, Nat.reduceLT, Nat.reduceMul, if_true, if_false, Bool.or_true, Bool.or_false, Bool.true_or, beq_self_eq_true, Bool.false_eq_true, Nat.succ_ne_self, decide_true, decide_false, keepT_setT, List.take_succ_cons, Int.reduceToNat, and_self, n3, opE_iaddrA, iaR_loc, ad2, hk, hL, hL5, hc, a1, a2, hw0, hw5, hw6]; rfl, by simp only [lookL_cons, Nat.reduceEqDiff, if_true, if_false], by simp only [lookL_cons, Nat.reduceEqDiff, if_true, if_false], by simp only [keepT, List.map, look_set, look_cons, in_int, in_str, in_loc, Nat.reduceEqDiff, if_true, if_false, List.contains_cons, List.contains_nil, beq_self_eq_true, Bool.or_false, Bool.or_true, Bool.true_or]⟩

theorem b22_2 (N : Nat) (hN : 2 ≤ N) (again : AC → St → Option (Ex × St)) (s : ByteArray) (hs : s.size ≤ 1000) (w1 w2 w3 a b c : Int) (m : Mem) (hT : Tab2 m) (hmn : m.n + 1 ≤ 2 ^ depth) (T : List (Nat × AV)) (L : List (Nat × List AV)) (hL : lookL L 4 = some [.int .i64 w1, .int .i64 w2, .int .i64 w3]) (hL5 : lookL L 5 = some [.int .i64 a, .int .i64 b, .int .i64 c]) (hk : keepT [3, 4, 5, 6] [4, 5] T = [(3, .str s), (4, .loc 4 0), (5, .loc 5 0), (6, .int .i64 2)]) (hx : w3 = 0 ∨ w3 = 5 ∨ w3 = 6 ∨ 0 ≤ c ∧ c ≤ 4294967295) : ∃ T' L' m', codeEv (run A N) again a22_B1 ⟨61, T, L, m⟩ = some (.norm, ⟨61, T', L', m'⟩) ∧ lookL L' 4 = some [.int .i64 w1, .int .i64 w2, .int .i64 w3] ∧ lookL L' 5 = some [.int .i64 a, .int .i64 b, .int .i64 c] ∧ keepT [3, 4, 5, 6] [4, 5] T' = [(3, .str (catR s w3 c)), (4, .loc 4 0), (5, .loc 5 0), (6, .int .i64 3)] ∧ Gr m m' 1 ∧ (catR s w3 c).size ≤ s.size + 21 := by
  unfold catR
  by_cases h0 : w3 = 0
  · obtain ⟨T', L', e1, e2, e3, e4⟩ := b22_2_0 N hN again s hs w1 w2 w3 a b c m hT hmn T L hL hL5 hk h0
    exact ⟨T', L', m, e1, e2, e3, by rw [if_pos h0]; exact e4, (Gr.refl m).le (by omega), by rw [if_pos h0]; omega⟩
  by_cases h5 : w3 = 5
  · obtain ⟨T', L', e1, e2, e3, e4⟩ := b22_2_5 N hN again s hs w1 w2 w3 a b c m hT hmn T L hL hL5 hk h5
    have z := signI_size c
    exact ⟨T', L', _, e1, e2, e3, by rw [if_neg h0, if_pos h5]; exact e4, Gr.push m _ (by omega), by rw [if_neg h0, if_pos h5, ByteArray.size_append, ByteArray.size_append, sz32]; omega⟩
  by_cases h6 : w3 = 6
  · obtain ⟨T', L', e1, e2, e3, e4⟩ := b22_2_6 N hN again s hs w1 w2 w3 a b c m hT hmn T L hL hL5 hk h6
    have z := unI_size c
    exact ⟨T', L', _, e1, e2, e3, by rw [if_neg h0, if_neg h5, if_pos h6]; exact e4, Gr.push m _ (by omega), by rw [if_neg h0, if_neg h5, if_pos h6, ByteArray.size_append, ByteArray.size_append, sz32]; omega⟩
  · obtain ⟨T', L', e1, e2, e3, e4⟩ := b22_2_n N hN again s hs w1 w2 w3 a b c m hT hmn T L hL hL5 hk h0 h5 h6 (by omega)
    have z := itoaB_size (c).toNat
    exact ⟨T', L', m, e1, e2, e3, by rw [if_neg h0, if_neg h5, if_neg h6]; exact e4, (Gr.refl m).le (by omega), by rw [if_neg h0, if_neg h5, if_neg h6, ByteArray.size_append, ByteArray.size_append, sz32]; omega⟩
theorem l22_3 (N : Nat) (_hN : 9 ≤ N) (s : ByteArray) (_hs : s.size ≤ 83) (w1 w2 w3 a b c : Int) (m : Mem) (_hT : Tab2 m) (_hn : 13 ≤ m.n) (_hmn : m.n + 0 ≤ 2 ^ depth) (T : List (Nat × AV)) (L : List (Nat × List AV)) (hL : lookL L 4 = some [.int .i64 w1, .int .i64 w2, .int .i64 w3]) (hL5 : lookL L 5 = some [.int .i64 a, .int .i64 b, .int .i64 c]) (hk : keepT [3, 4, 5, 6] [4, 5] T = [(3, .str s), (4, .loc 4 0), (5, .loc 5 0), (6, .int .i64 3)]) (_hx1 : w1 = 0 ∨ w1 = 5 ∨ w1 = 6 ∨ 0 ≤ a ∧ a ≤ 4294967295) (_hx2 : w2 = 0 ∨ w2 = 5 ∨ w2 = 6 ∨ 0 ≤ b ∧ b ≤ 4294967295) (_hx3 : w3 = 0 ∨ w3 = 5 ∨ w3 = 6 ∨ 0 ≤ c ∧ c ≤ 4294967295) {q : Option (Ex × St)} (hq : codeEv (run A N) (ev A N).2 a22_L1 ⟨61, T, L, m⟩ = q) : ∃ T' L' m', q = some (.exit 0, ⟨61, T', L', m'⟩) ∧ keepT [3] [] T' = [(3, .str s)] ∧ Gr m m' 0 := by
  subst hq
  rw [a22_L1_step]
  have e : ∃ T' L', codeEv (run A N) (ev A N).2 a22_B1 ⟨61, T, L, m⟩ = some (.exit 0, ⟨61, T', L', m⟩) ∧ keepT [3] [] T' = [(3, .str s)] := by
    unfold a22_B1
    exact ⟨_, _, by simp only [codeEv, opsEv, oneEv, guardEv, opE_mov, opE_bin, St.opd, look_set, look_nil, look_cons, St.put, bin_ilt, keepL, Option.map_some, Nat.reduceEqDiff, Int.reduceLT, Nat.reduceLT, if_true, if_false, Bool.false_eq_true, decide_false, hk, hL, hL5]; rfl, by simp only [keepT, List.map, look_set, look_cons, in_str, Nat.reduceEqDiff, if_true, if_false]⟩
  obtain ⟨T', L', e1, e2⟩ := e
  exact ⟨T', L', m, by rw [e1], e2, Gr.refl m⟩

theorem l22_2 (N : Nat) (hN : 10 ≤ N) (s : ByteArray) (hs : s.size ≤ 62) (w1 w2 w3 a b c : Int) (m : Mem) (hT : Tab2 m) (hn : 13 ≤ m.n) (hmn : m.n + 1 ≤ 2 ^ depth) (T : List (Nat × AV)) (L : List (Nat × List AV)) (hL : lookL L 4 = some [.int .i64 w1, .int .i64 w2, .int .i64 w3]) (hL5 : lookL L 5 = some [.int .i64 a, .int .i64 b, .int .i64 c]) (hk : keepT [3, 4, 5, 6] [4, 5] T = [(3, .str s), (4, .loc 4 0), (5, .loc 5 0), (6, .int .i64 2)]) (hx1 : w1 = 0 ∨ w1 = 5 ∨ w1 = 6 ∨ 0 ≤ a ∧ a ≤ 4294967295) (hx2 : w2 = 0 ∨ w2 = 5 ∨ w2 = 6 ∨ 0 ≤ b ∧ b ≤ 4294967295) (hx3 : w3 = 0 ∨ w3 = 5 ∨ w3 = 6 ∨ 0 ≤ c ∧ c ≤ 4294967295) {q : Option (Ex × St)} (hq : codeEv (run A N) (ev A N).2 a22_L1 ⟨61, T, L, m⟩ = q) : ∃ T' L' m', q = some (.exit 0, ⟨61, T', L', m'⟩) ∧ keepT [3] [] T' = [(3, .str (catR s w3 c))] ∧ Gr m m' 1 := by
  subst hq
  rw [a22_L1_step]
  obtain ⟨T1, L1, m1, e1, e2, e3, e4, g1, z1⟩ := b22_2 N (by omega) (ev A N).2 s (by omega) w1 w2 w3 a b c m hT (by omega) T L hL hL5 hk hx3
  obtain ⟨n, rfl⟩ : ∃ n, N = n + 1 := ⟨N - 1, by omega⟩
  rw [e1]
  dsimp only
  rw [again_of]
  obtain ⟨T', L', m', f1, f2, f3⟩ := l22_3 n (by omega) _ (by omega) w1 w2 w3 a b c m1 (hT.ext g1.1 hn) (by have := g1.1.1; omega) (by have := g1.2; omega) T1 L1 e2 e3 e4 hx1 hx2 hx3 rfl
  exact ⟨T', L', m', f1, f2, (g1.trans f3).le (by omega)⟩

theorem l22_1 (N : Nat) (hN : 11 ≤ N) (s : ByteArray) (hs : s.size ≤ 41) (w1 w2 w3 a b c : Int) (m : Mem) (hT : Tab2 m) (hn : 13 ≤ m.n) (hmn : m.n + 2 ≤ 2 ^ depth) (T : List (Nat × AV)) (L : List (Nat × List AV)) (hL : lookL L 4 = some [.int .i64 w1, .int .i64 w2, .int .i64 w3]) (hL5 : lookL L 5 = some [.int .i64 a, .int .i64 b, .int .i64 c]) (hk : keepT [3, 4, 5, 6] [4, 5] T = [(3, .str s), (4, .loc 4 0), (5, .loc 5 0), (6, .int .i64 1)]) (hx1 : w1 = 0 ∨ w1 = 5 ∨ w1 = 6 ∨ 0 ≤ a ∧ a ≤ 4294967295) (hx2 : w2 = 0 ∨ w2 = 5 ∨ w2 = 6 ∨ 0 ≤ b ∧ b ≤ 4294967295) (hx3 : w3 = 0 ∨ w3 = 5 ∨ w3 = 6 ∨ 0 ≤ c ∧ c ≤ 4294967295) {q : Option (Ex × St)} (hq : codeEv (run A N) (ev A N).2 a22_L1 ⟨61, T, L, m⟩ = q) : ∃ T' L' m', q = some (.exit 0, ⟨61, T', L', m'⟩) ∧ keepT [3] [] T' = [(3, .str (catR (catR s w2 b) w3 c))] ∧ Gr m m' 2 := by
  subst hq
  rw [a22_L1_step]
  obtain ⟨T1, L1, m1, e1, e2, e3, e4, g1, z1⟩ := b22_1 N (by omega) (ev A N).2 s (by omega) w1 w2 w3 a b c m hT (by omega) T L hL hL5 hk hx2
  obtain ⟨n, rfl⟩ : ∃ n, N = n + 1 := ⟨N - 1, by omega⟩
  rw [e1]
  dsimp only
  rw [again_of]
  obtain ⟨T', L', m', f1, f2, f3⟩ := l22_2 n (by omega) _ (by omega) w1 w2 w3 a b c m1 (hT.ext g1.1 hn) (by have := g1.1.1; omega) (by have := g1.2; omega) T1 L1 e2 e3 e4 hx1 hx2 hx3 rfl
  exact ⟨T', L', m', f1, f2, (g1.trans f3).le (by omega)⟩

theorem l22_0 (N : Nat) (hN : 12 ≤ N) (s : ByteArray) (hs : s.size ≤ 20) (w1 w2 w3 a b c : Int) (m : Mem) (hT : Tab2 m) (hn : 13 ≤ m.n) (hmn : m.n + 3 ≤ 2 ^ depth) (T : List (Nat × AV)) (L : List (Nat × List AV)) (hL : lookL L 4 = some [.int .i64 w1, .int .i64 w2, .int .i64 w3]) (hL5 : lookL L 5 = some [.int .i64 a, .int .i64 b, .int .i64 c]) (hk : keepT [3, 4, 5, 6] [4, 5] T = [(3, .str s), (4, .loc 4 0), (5, .loc 5 0), (6, .int .i64 0)]) (hx1 : w1 = 0 ∨ w1 = 5 ∨ w1 = 6 ∨ 0 ≤ a ∧ a ≤ 4294967295) (hx2 : w2 = 0 ∨ w2 = 5 ∨ w2 = 6 ∨ 0 ≤ b ∧ b ≤ 4294967295) (hx3 : w3 = 0 ∨ w3 = 5 ∨ w3 = 6 ∨ 0 ≤ c ∧ c ≤ 4294967295) {q : Option (Ex × St)} (hq : codeEv (run A N) (ev A N).2 a22_L1 ⟨61, T, L, m⟩ = q) : ∃ T' L' m', q = some (.exit 0, ⟨61, T', L', m'⟩) ∧ keepT [3] [] T' = [(3, .str (catR (catR (catR s w1 a) w2 b) w3 c))] ∧ Gr m m' 3 := by
  subst hq
  rw [a22_L1_step]
  obtain ⟨T1, L1, m1, e1, e2, e3, e4, g1, z1⟩ := b22_0 N (by omega) (ev A N).2 s (by omega) w1 w2 w3 a b c m hT (by omega) T L hL hL5 hk hx1
  obtain ⟨n, rfl⟩ : ∃ n, N = n + 1 := ⟨N - 1, by omega⟩
  rw [e1]
  dsimp only
  rw [again_of]
  obtain ⟨T', L', m', f1, f2, f3⟩ := l22_1 n (by omega) _ (by omega) w1 w2 w3 a b c m1 (hT.ext g1.1 hn) (by have := g1.1.1; omega) (by have := g1.2; omega) T1 L1 e2 e3 e4 hx1 hx2 hx3 rfl
  exact ⟨T', L', m', f1, f2, (g1.trans f3).le (by omega)⟩

theorem ba_ext {x y : ByteArray} (h : x.data.toList = y.data.toList) : x = y := by
  cases x; cases y; simp only at h; exact congrArg _ (Array.toList_inj.1 h)
theorem ba_app (x y : ByteArray) : (x ++ y).data.toList = x.data.toList ++ y.data.toList := by simp
theorem catR_piece {s : ByteArray} {k x : Int} (hk : 0 ≤ k ∧ k ≤ 8) (h : fitsI k x = true) : (catR s (refK k) x).data.toList = s.data.toList ++ Lib.joinTail [32] ((piece k x).map (·.data.toList)) := by
  have hh : k = 0 ∨ k = 1 ∨ k = 2 ∨ k = 3 ∨ k = 4 ∨ k = 5 ∨ k = 6 ∨ k = 7 ∨ k = 8 := by omega
  have key : ∀ y : ByteArray, (s ++ ⟨#[32]⟩ ++ y).data.toList = s.data.toList ++ Lib.joinTail [32] [y.data.toList] := by
    intro y
    rw [ba_app, ba_app]
    simp [Lib.joinTail]
  rcases hh with rfl | rfl | rfl | rfl | rfl | rfl | rfl | rfl | rfl
  · have : catR s (refK 0) x = s := rfl
    rw [this]
    have : piece 0 x = [] := rfl
    rw [this]
    simp [Lib.joinTail]
  · exact key _
  · exact key _
  · exact key _
  · exact key _
  · exact key _
  · exact key _
  · have e : signI x = signB x.toNat := if_pos (by simp [fitsI] at h; omega)
    have : catR s (refK 7) x = s ++ ⟨#[32]⟩ ++ signI x := rfl
    rw [this, e]
    exact key _
  · have e : unI x = unB x.toNat := if_pos (by simp [fitsI] at h; omega)
    have : catR s (refK 8) x = s ++ ⟨#[32]⟩ ++ unI x := rfl
    rw [this, e]
    exact key _
theorem catR_text {op a b c : Int} (h : codeOk op a b c = true) : catR (catR (catR (nameB op.toNat) (refK (kx 1 op.toNat)) a) (refK (kx 2 op.toNat)) b) (refK (kx 3 op.toNat)) c = textB op a b c := by
  obtain ⟨h1, f1, f2, f3⟩ := codeOk_fits h
  apply ba_ext
  rw [catR_piece (kx_range h1.1 h1.2 3 (by simp)) f3, catR_piece (kx_range h1.1 h1.2 2 (by simp)) f2, catR_piece (kx_range h1.1 h1.2 1 (by simp)) f1]
  rw [textB, if_pos h]
  show _ = Lib.join ((parts op a b c).map (·.data.toList)) [32]
  unfold parts
  rw [List.map_cons, Lib.join_cons, List.map_append, List.map_append]
  simp [Lib.joinTail]
theorem refK_56 {k x : Int} (_hk : 0 ≤ k ∧ k ≤ 8) (h : fitsI k x = true) : refK k = 0 ∨ refK k = 5 ∨ refK k = 6 ∨ 0 ≤ x ∧ x ≤ 4294967295 := .inr (.inr (.inr (fits_nonneg h)))
theorem lg22 (m m1 : Mem) : logOk [.eff m m1, .rw (.loc 1 0) 1 false] = true := rfl
theorem rtext_run (N : Nat) (hN : 20 ≤ N) (op a b c : Int) (m : Mem) (hT : Tab2 m) (hn : 13 ≤ m.n) (hmn : m.n + 8 ≤ 2 ^ depth) : ∃ m', run A N 22 [.agg [.int .i64 op, .int .i64 a, .int .i64 b, .int .i64 c]] m = some (.str (textB op a b c), m') ∧ Gr m m' 7 := by
  obtain ⟨n, rfl⟩ : ∃ n, N = n + 1 := ⟨N - 1, by omega⟩
  obtain ⟨m1, c1, g1⟩ := rcheck_run n (by omega) op a b c m (by omega)
  rw [run_22]
  cases hk : codeOk op a b c
  · rw [hk] at c1
    refine ⟨m1, ?_, g1.le (by omega)⟩
    rw [textB, if_neg (by rw [hk]; simp)]
    unfold fnEv a22
    simp only [codeEv, opsEv, oneEv, guardEv, opE_mov, opE_box, opE_loadk, opE_bin, opE_call, St.opd, look_set, look_nil, look_cons, St.put, St.new, St.read, lookL_nil, lookL_cons, setL_nil, cellsAt_cons, argsT, resEv, bin_ine, in_agg, in_loc, List.contains_cons, List.contains_nil, loc_str, loc_agg, cells_agg, callWith, keepL, List.map, List.length, List.take, List.drop, List.any, List.take_succ_cons, Option.map_some, Nat.reduceEqDiff, Int.reduceEq, Nat.reduceAdd, Nat.reduceLeDiff, Nat.reduceLT, if_true, if_false, Bool.or_false, Bool.not_false, beq_self_eq_true, Bool.false_eq_true, Nat.succ_ne_self, decide_false, keepT_setT, keepT_lit, List.take_succ_cons, c1]
  · rw [hk] at c1
    simp only [if_true] at c1
    obtain ⟨h1, f1, f2, f3⟩ := codeOk_fits hk
    have gn1 := g1.2
    have gx1 := g1.1.1
    have c2 := rnames_run n (by omega) m1 (by omega)
    have g2 := g1.trans (Gr.push m1 (.cells namesL true) (by omega))
    have hbn : binEv .sub (.int .i64 op) (.int .i64 1) = some (.int .i64 (op - 1)) := by
      simp only [binEv, if_true, intBin, IntKind.wrap, IntKind.bits]
      simp [IntKind.signed]
      omega
    have hb : 0 ≤ op - 1 ∧ op - 1 < ((24 : Nat) : Int) := by omega
    have hg : (m1.push (.cells namesL true)).get m1.n = some (.cells namesL true) := Mem.get_push_new _
    have hnm : cellsAt namesL (0 + (op - 1).toNat * 1) 1 = some [.str (nameB op.toNat)] := by
      rw [Nat.zero_add, Nat.mul_one]
      apply cells_one
      rw [names_at _ (by omega), show (op - 1).toNat + 1 = op.toNat by omega]
    have hh := has_run n (by omega) op (m1.push (.cells namesL true))
    rw [hR_in 1 h1.1 h1.2, hR_in 2 h1.1 h1.2, hR_in 3 h1.1 h1.2] at hh
    have hsz : (nameB op.toNat).size ≤ 20 := by
      rw [← size_list']
      exact of_decide_eq_true (List.all_eq_true.1 names_len op.toNat (List.mem_range.2 (by omega)))
    have hlp := fun T L q => l22_0 n (by omega) (nameB op.toNat) (by omega) (refK (kx 1 op.toNat)) (refK (kx 2 op.toNat)) (refK (kx 3 op.toNat)) a b c (m1.push (.cells namesL true)) (hT.ext g2.1 hn) (by have := g2.1.1; omega) (by rw [push_n]; omega) T L (q := q)
    unfold fnEv a22
    simp only [codeEv, opsEv, oneEv, guardEv, opE_mov, opE_alloc, opE_box, opE_load1, opE_loadk, opE_store, opE_bin, opE_faddr, opE_iaddrL, opE_call, elemR_slice, St.opd, look_set, look_nil, look_cons, St.put, St.new, St.read, St.write, lookL_nil, lookL_cons, setL_nil, setL_cons, cellsAt_cons, splice, argsT, resEv, bin_ine, in_str, in_agg, in_loc, List.contains_cons, List.contains_nil, one_int, loc_int, cells_int, loc_agg, cells_agg, fillEv, callWith, keepL, careEv, dOneEv, dOpsEv, accOf, accEv, Option.toList_some, List.append_nil, List.map, List.length, List.take, List.drop, List.all, List.any, List.cons_append, List.nil_append, List.take_succ_cons, List.drop_succ_cons, List.length_cons, Option.map_some, Nat.reduceEqDiff, Nat.reduceAdd, Nat.reduceLeDiff, Nat.reduceLT, if_true, if_false, Bool.and_true, Bool.and_false, Bool.or_true, Bool.or_false, Bool.true_or, Bool.not_true, Bool.not_false, List.isEmpty_cons, beq_self_eq_true, Bool.false_eq_true, Nat.succ_ne_self, decide_true, keepT_setT, keepT_lit, List.take_succ_cons, and_self, opE_build, c1, c2, hbn, hb, hg, hnm, hh, lg22, AOp.kd, kd_rm]
    generalize hq : codeEv (run A n) (ev A n).2 a22_L1 _ = q
    obtain ⟨T', L', m', rfl, e2, e3⟩ := hlp _ _ _ (by simp only [lookL_cons, Nat.reduceEqDiff, if_true, if_false]) (by simp only [lookL_cons, Nat.reduceEqDiff, if_true, if_false]) (by simp only [keepT, List.map, look_set, look_cons, in_int, in_str, in_loc, Nat.reduceEqDiff, if_true, if_false, List.contains_cons, List.contains_nil, beq_self_eq_true, Bool.or_false, Bool.or_true, Bool.true_or]) (refK_56 (kx_range h1.1 h1.2 1 (by simp)) f1) (refK_56 (kx_range h1.1 h1.2 2 (by simp)) f2) (refK_56 (kx_range h1.1 h1.2 3 (by simp)) f3) hq
    rw [catR_text hk] at e2
    refine ⟨m', ?_, (g2.trans e3).le (by omega)⟩
    simp only [look_set, look_nil, look_cons, loc_str, Nat.reduceEqDiff, Nat.reduceLT, if_true, if_false, Bool.false_eq_true, Nat.succ_ne_self, e2]
end AG
