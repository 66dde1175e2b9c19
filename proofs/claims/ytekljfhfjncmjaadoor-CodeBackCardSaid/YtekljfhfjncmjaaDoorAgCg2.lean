/- What the functions of instructions and their texts compute, and the laws of that. -/
import Derived.Test.YtekljfhfjncmjaaDoorAgCg1
namespace AG
open Go Go.Proofs.YtekljfhfjncmjaaDoor
set_option maxRecDepth 100000
set_option maxHeartbeats 4000000
def kx (j i : Nat) : Int := match kinds[i * 6 + j]? with | some (.int _ v) => v | _ => 0
theorem kind_ex (op : Int) (h1 : 1 ≤ op) (h2 : op < 25) : ∃ s, cellsAt kinds (0 + op.toNat * 6) 6 = some [.str s, .int .i64 (kx 1 op.toNat), .int .i64 (kx 2 op.toNat), .int .i64 (kx 3 op.toNat), .int .i64 (kx 4 op.toNat), .int .i64 (kx 5 op.toNat)] := by
  have hall : (List.range 25).all (fun j => match cellsAt kinds (0 + j * 6) 6 with
      | some [.str _, .int .i64 x, .int .i64 y, .int .i64 z, .int .i64 p, .int .i64 q] => x == kx 1 j && (y == kx 2 j && (z == kx 3 j && (p == kx 4 j && q == kx 5 j)))
      | _ => false) = true := by decide +kernel
  have hv := List.all_eq_true.1 hall op.toNat (List.mem_range.2 (by omega))
  split at hv
  · rename_i s x y z p q hs
    simp only [Bool.and_eq_true, beq_iff_eq] at hv
    obtain ⟨rfl, rfl, rfl, rfl, rfl⟩ := hv
    exact ⟨s, hs⟩
  · cases hv
def insA (op a b c : Int) : AV := .agg [.int .i64 op, .int .i64 a, .int .i64 b, .int .i64 c]
/-- May the instruction be? -/
def codeOk (op a b c : Int) : Bool := decide (1 ≤ op) && (decide (op < 25) && (fitsI (kx 1 op.toNat) a && (fitsI (kx 2 op.toNat) b && fitsI (kx 3 op.toNat) c)))
theorem code_ex (n : Nat) (op a b c : Int) (m : Mem) (hT : Tab m) : run A (n + 4) 12 [insA op a b c] m = some (.int .i64 (if codeOk op a b c then 0 else 2), m) := by
  rw [run_12]
  unfold fnEv a12 insA codeOk
  by_cases h1 : op < 1
  · have h1' : ¬ 1 ≤ op := by omega
    simp only [codeEv, opsEv, oneEv, guardEv, opE_mov, opE_pick, opE_box, opE_load1, opE_bin, opE_faddr, St.opd, look_set, look_cons, St.put, St.new, St.read, lookL_nil, lookL_cons, setL_nil, cellsAt_cons, argsT, resEv, bin_ilt, in_agg, in_loc, List.contains_cons, List.contains_nil, loc_int, cells_agg, keepL, List.map, List.length, List.take, List.drop, List.take_succ_cons, Option.map_some, Nat.reduceEqDiff, Nat.reduceAdd, Nat.reduceLeDiff, Nat.reduceLT, if_true, if_false, Bool.false_and, Bool.or_false, beq_self_eq_true, Bool.false_eq_true, Nat.succ_ne_self, decide_true, decide_false, beq_tf, keepT_setT, keepT_lit, h1, h1']
  · have h1' : 1 ≤ op := by omega
    by_cases h2 : 25 ≤ op
    · have h2' : ((25 : Nat) : Int) ≤ op := h2
      have h2'' : ¬ op < 25 := by omega
      simp only [codeEv, opsEv, oneEv, guardEv, opE_mov, opE_pick, opE_box, opE_load1, opE_bin, opE_faddr, opE_lenL, lenR_slice, St.opd, look_set, look_cons, St.put, St.new, St.read, lookL_nil, lookL_cons, setL_nil, cellsAt_cons, argsT, resEv, bin_ilt, bin_ige, in_agg, in_loc, List.contains_cons, List.contains_nil, loc_int, cells_agg, keepL, List.map, List.length, List.take, List.drop, List.take_succ_cons, Option.map_some, Nat.reduceEqDiff, Nat.reduceAdd, Nat.reduceLeDiff, Nat.reduceLT, if_true, if_false, Bool.false_and, Bool.and_false, Bool.or_false, beq_self_eq_true, Bool.false_eq_true, Nat.succ_ne_self, decide_true, decide_false, keepT_setT, keepT_lit, h1, h1', h2', h2'', hT.k]
    · have h2' : ¬ ((25 : Nat) : Int) ≤ op := h2
      have h2'' : op < 25 := by omega
      have hb : 0 ≤ op ∧ op < ((25 : Nat) : Int) := by omega
      obtain ⟨s, hk⟩ := kind_ex op h1' h2''
      have f1 := fits_ex n (kx 1 op.toNat) a m hT
      have f2 := fits_ex n (kx 2 op.toNat) b m hT
      have f3 := fits_ex n (kx 3 op.toNat) c m hT
      generalize fitsI (kx 1 op.toNat) a = b1 at *
      generalize fitsI (kx 2 op.toNat) b = b2 at *
      generalize fitsI (kx 3 op.toNat) c = b3 at *
      cases b1
      · simp only [codeEv, opsEv, oneEv, guardEv, opE_mov, opE_pick, opE_alloc, opE_box, opE_load1, opE_loadk, opE_store, opE_bin, opE_un, opE_faddr, opE_iaddrL, opE_call, opE_lenL, lenR_slice, elemR_slice, St.opd, look_set, look_cons, St.put, St.new, St.read, St.write, lookL_nil, lookL_cons, setL_nil, setL_cons, cellsAt_cons, splice, argsT, resEv, bin_ilt, bin_ige, in_agg, in_loc, List.contains_cons, List.contains_nil, one_int, loc_int, one_str, cells_agg, unEv, callWith, keepL, List.append_nil, List.map, List.length, List.take, List.drop, List.all, List.any, List.nil_append, List.take_succ_cons, List.drop_succ_cons, Option.map_some, Nat.reduceEqDiff, Nat.reduceAdd, Nat.reduceLeDiff, Nat.reduceLT, if_true, if_false, Bool.and_true, Bool.false_and, Bool.and_false, Bool.or_true, Bool.or_false, Bool.true_or, Bool.not_false, List.isEmpty_cons, beq_self_eq_true, Bool.false_eq_true, Nat.succ_ne_self, decide_true, decide_false, beq_tf, keepT_setT, keepT_lit, h1, h1', h2', h2'', hb, and_self, hT.k, hT.t, hk, f1]
      · cases b2
        · simp only [codeEv, opsEv, oneEv, guardEv, opE_mov, opE_pick, opE_alloc, opE_box, opE_load1, opE_loadk, opE_store, opE_bin, opE_un, opE_faddr, opE_iaddrL, opE_call, opE_lenL, lenR_slice, elemR_slice, St.opd, look_set, look_cons, St.put, St.new, St.read, St.write, lookL_nil, lookL_cons, setL_nil, setL_cons, cellsAt_cons, splice, argsT, resEv, bin_ilt, bin_ige, in_agg, in_loc, List.contains_cons, List.contains_nil, one_int, loc_int, one_str, cells_agg, unEv, callWith, keepL, List.append_nil, List.map, List.length, List.take, List.drop, List.all, List.any, List.nil_append, List.take_succ_cons, List.drop_succ_cons, Option.map_some, Nat.reduceEqDiff, Nat.reduceAdd, Nat.reduceLeDiff, Nat.reduceLT, if_true, if_false, Bool.and_true, Bool.false_and, Bool.and_false, Bool.or_true, Bool.or_false, Bool.true_or, Bool.not_true, Bool.not_false, List.isEmpty_cons, beq_self_eq_true, Bool.false_eq_true, Nat.succ_ne_self, decide_true, decide_false, beq_tf, keepT_setT, keepT_lit, h1, h1', h2', h2'', hb, and_self, hT.k, hT.t, hk, f1, f2]
        · cases b3
          · simp only [codeEv, opsEv, oneEv, guardEv, opE_mov, opE_pick, opE_alloc, opE_box, opE_load1, opE_loadk, opE_store, opE_bin, opE_un, opE_faddr, opE_iaddrL, opE_call, opE_lenL, lenR_slice, elemR_slice, St.opd, look_set, look_cons, St.put, St.new, St.read, St.write, lookL_nil, lookL_cons, setL_nil, setL_cons, cellsAt_cons, splice, argsT, resEv, bin_ilt, bin_ige, in_agg, in_loc, List.contains_cons, List.contains_nil, one_int, loc_int, one_str, cells_agg, unEv, callWith, keepL, List.append_nil, List.map, List.length, List.take, List.drop, List.all, List.any, List.nil_append, List.take_succ_cons, List.drop_succ_cons, Option.map_some, Nat.reduceEqDiff, Nat.reduceAdd, Nat.reduceLeDiff, Nat.reduceLT, if_true, if_false, Bool.and_true, Bool.and_false, Bool.or_true, Bool.or_false, Bool.true_or, Bool.not_true, Bool.not_false, List.isEmpty_cons, beq_self_eq_true, Bool.false_eq_true, Nat.succ_ne_self, decide_true, decide_false, keepT_setT, keepT_lit, h1, h1', h2', h2'', hb, and_self, hT.k, hT.t, hk, f1, f2, f3]
          · simp only [codeEv, opsEv, oneEv, guardEv, opE_mov, opE_pick, opE_alloc, opE_box, opE_load1, opE_loadk, opE_store, opE_bin, opE_un, opE_faddr, opE_iaddrL, opE_call, opE_lenL, lenR_slice, elemR_slice, St.opd, look_set, look_cons, St.put, St.new, St.read, St.write, lookL_nil, lookL_cons, setL_nil, setL_cons, cellsAt_cons, splice, argsT, resEv, bin_ilt, bin_ige, in_agg, in_loc, List.contains_cons, List.contains_nil, one_int, loc_int, one_str, cells_agg, unEv, callWith, keepL, List.append_nil, List.map, List.length, List.take, List.drop, List.all, List.any, List.nil_append, List.take_succ_cons, List.drop_succ_cons, Option.map_some, Nat.reduceEqDiff, Nat.reduceAdd, Nat.reduceLeDiff, Nat.reduceLT, if_true, if_false, Bool.and_true, Bool.or_true, Bool.or_false, Bool.true_or, Bool.not_true, Bool.not_false, List.isEmpty_cons, beq_self_eq_true, Bool.false_eq_true, Nat.succ_ne_self, decide_true, decide_false, keepT_setT, keepT_lit, h1, h1', h2', h2'', hb, and_self, hT.k, hT.t, hk, f1, f2, f3]


theorem kx_small (op : Int) (h1 : 1 ≤ op) (h2 : op < 25) : 0 ≤ kx 4 op.toNat ∧ kx 4 op.toNat ≤ 2 ∧ 0 ≤ kx 5 op.toNat ∧ kx 5 op.toNat ≤ 1 := by
  have hall : (List.range 25).all (fun j => decide (0 ≤ kx 4 j ∧ kx 4 j ≤ 2 ∧ 0 ≤ kx 5 j ∧ kx 5 j ≤ 1)) = true := by decide +kernel
  exact of_decide_eq_true (List.all_eq_true.1 hall op.toNat (List.mem_range.2 (by omega)))
theorem codeOk_op {op a b c : Int} (h : codeOk op a b c = true) : 1 ≤ op ∧ op < 25 := by
  unfold codeOk at h
  simp only [Bool.and_eq_true, decide_eq_true_eq] at h
  exact ⟨h.1, h.2.1⟩
theorem code_call (N : Nat) (hN : 4 ≤ N) (op a b c : Int) (m : Mem) (hT : Tab m) : run A N 12 [.agg [.int .i64 op, .int .i64 a, .int .i64 b, .int .i64 c]] m = some (.int .i64 (if codeOk op a b c then 0 else 2), m) := by
  obtain ⟨n, rfl⟩ : ∃ n, N = n + 4 := ⟨N - 4, by omega⟩
  exact code_ex n op a b c m hT
/-- Where an instruction may go. -/
def jumpsI (op a b c : Int) : AV :=
  if codeOk op a b c then (if op = 1 ∨ op = 18 then .tup [.int .i64 0, .bool false, .bool false] else if op = 15 then .tup [.int .i64 a, .bool true, .bool false] else if op = 16 then .tup [.int .i64 a, .bool true, .bool true] else .tup [.int .i64 0, .bool false, .bool true])
  else .tup [.int .i64 0, .bool false, .bool false]
theorem jumps_ex (N : Nat) (hN : 5 ≤ N) (op a b c : Int) (m : Mem) (hT : Tab m) : run A N 16 [insA op a b c] m = some (jumpsI op a b c, m) := by
  obtain ⟨n, rfl⟩ : ∃ n, N = n + 1 := ⟨N - 1, by omega⟩
  rw [run_16]
  have hc := code_call n (by omega) op a b c m hT
  unfold fnEv a16 insA jumpsI
  cases hk : codeOk op a b c
  · rw [hk] at hc
    simp only [Bool.false_eq_true, if_false] at hc
    simp only [codeEv, opsEv, oneEv, guardEv, opE_mov, opE_box, opE_loadk, opE_bin, opE_call, St.opd, look_set, look_cons, St.put, St.new, St.read, lookL_nil, lookL_cons, setL_nil, cellsAt_cons, argsT, resEv, bin_ine, in_agg, in_loc, List.contains_cons, List.contains_nil, loc_int, loc_bool, loc_agg, cells_agg, callWith, keepL, List.map, List.length, List.take, List.drop, List.any, List.take_succ_cons, Option.map_some, Nat.reduceEqDiff, Int.reduceEq, Nat.reduceAdd, Nat.reduceLeDiff, Nat.reduceLT, if_true, if_false, Bool.or_false, Bool.not_false, beq_self_eq_true, Bool.false_eq_true, Nat.succ_ne_self, decide_false, keepT_setT, keepT_lit, hc]
  · rw [hk] at hc
    simp only [if_true] at hc
    by_cases h1 : op = 1
    · have h1 := eq_true h1
      simp only [codeEv, opsEv, oneEv, guardEv, opE_mov, opE_box, opE_load1, opE_loadk, opE_bin, opE_faddr, opE_call, St.opd, look_set, look_cons, St.put, St.new, St.read, lookL_nil, lookL_cons, setL_nil, cellsAt_cons, argsT, resEv, bin_ieq, bin_ine, in_int, in_agg, in_loc, List.contains_cons, List.contains_nil, loc_int, loc_bool, loc_agg, cells_agg, callWith, keepL, List.map, List.length, List.take, List.drop, List.any, List.take_succ_cons, Option.map_some, Nat.reduceEqDiff, Nat.reduceAdd, Nat.reduceLeDiff, Nat.reduceLT, if_true, if_false, Bool.or_false, Bool.not_true, beq_self_eq_true, Bool.false_eq_true, Nat.succ_ne_self, decide_true, keepT_setT, keepT_lit, hc, h1, true_or]
    · by_cases h2 : op = 18
      · have h2 := eq_true h2
        simp only [codeEv, opsEv, oneEv, guardEv, opE_mov, opE_box, opE_load1, opE_loadk, opE_bin, opE_faddr, opE_call, St.opd, look_set, look_cons, St.put, St.new, St.read, lookL_nil, lookL_cons, setL_nil, cellsAt_cons, argsT, resEv, bin_ieq, bin_ine, in_int, in_agg, in_loc, List.contains_cons, List.contains_nil, loc_int, loc_bool, loc_agg, cells_agg, callWith, keepL, List.map, List.length, List.take, List.drop, List.any, List.take_succ_cons, Option.map_some, Nat.reduceEqDiff, Nat.reduceAdd, Nat.reduceLeDiff, Nat.reduceLT, if_true, if_false, Bool.or_false, Bool.not_true, beq_self_eq_true, Bool.false_eq_true, Nat.succ_ne_self, decide_true, decide_false, keepT_setT, keepT_lit, hc, h1, h2, or_true]
      · by_cases h3 : op = 15
        · have h3 := eq_true h3
          simp only [codeEv, opsEv, oneEv, guardEv, opE_mov, opE_box, opE_load1, opE_loadk, opE_bin, opE_faddr, opE_call, St.opd, look_set, look_cons, St.put, St.new, St.read, lookL_nil, lookL_cons, setL_nil, cellsAt_cons, argsT, resEv, bin_ieq, bin_ine, in_int, in_agg, in_loc, List.contains_cons, List.contains_nil, loc_int, loc_bool, loc_agg, cells_agg, callWith, keepL, List.map, List.length, List.take, List.drop, List.any, List.take_succ_cons, Option.map_some, Nat.reduceEqDiff, Nat.reduceAdd, Nat.reduceLeDiff, Nat.reduceLT, if_true, if_false, Bool.or_false, Bool.not_true, beq_self_eq_true, Bool.false_eq_true, Nat.succ_ne_self, decide_true, decide_false, keepT_setT, keepT_lit, hc, h1, h2, h3, or_self]
        · by_cases h4 : op = 16
          · have h4 := eq_true h4
            simp only [codeEv, opsEv, oneEv, guardEv, opE_mov, opE_box, opE_load1, opE_loadk, opE_bin, opE_faddr, opE_call, St.opd, look_set, look_cons, St.put, St.new, St.read, lookL_nil, lookL_cons, setL_nil, cellsAt_cons, argsT, resEv, bin_ieq, bin_ine, in_int, in_agg, in_loc, List.contains_cons, List.contains_nil, loc_int, loc_bool, loc_agg, cells_agg, callWith, keepL, List.map, List.length, List.take, List.drop, List.any, List.take_succ_cons, Option.map_some, Nat.reduceEqDiff, Nat.reduceAdd, Nat.reduceLeDiff, Nat.reduceLT, if_true, if_false, Bool.or_false, Bool.not_true, beq_self_eq_true, Bool.false_eq_true, Nat.succ_ne_self, decide_true, decide_false, keepT_setT, keepT_lit, hc, h1, h2, h3, h4, or_self]
          · simp only [codeEv, opsEv, oneEv, guardEv, opE_mov, opE_box, opE_load1, opE_loadk, opE_bin, opE_faddr, opE_call, St.opd, look_set, look_cons, St.put, St.new, St.read, lookL_nil, lookL_cons, setL_nil, cellsAt_cons, argsT, resEv, bin_ieq, bin_ine, in_int, in_agg, in_loc, List.contains_cons, List.contains_nil, loc_int, loc_bool, loc_agg, cells_agg, callWith, keepL, List.map, List.length, List.take, List.drop, List.any, List.take_succ_cons, Option.map_some, Nat.reduceEqDiff, Nat.reduceAdd, Nat.reduceLeDiff, Nat.reduceLT, if_true, if_false, Bool.or_false, Bool.not_true, beq_self_eq_true, Bool.false_eq_true, Nat.succ_ne_self, decide_true, decide_false, keepT_setT, keepT_lit, hc, h1, h2, h3, h4, or_self]
end AG
