/- What the functions of masks and sets compute, and the laws of that. -/
import Derived.Test.YtenhcejelicjfaaDoorAgMc6
namespace AG
open Go Go.Proofs.YtenhcejelicjfaaDoor
set_option maxRecDepth 100000
set_option maxHeartbeats 4000000



theorem rcheck_sp (n : Nat) (may must : BitVec 32) (fr to : Int) (m : Mem) : run A (n + 1) 33 [mkA may must fr to] m = some (.int .i64 (if maskOk may must fr to then 0 else 2), m) := by
  rw [run_33]
  unfold fnEv a33 mkA maskOk
  by_cases h1 : must &&& ~~~may = 0#32
  · by_cases h2 : fr < 0
    · have h2' : ¬ (0 ≤ fr) := by omega
      simp only [codeEv, opsEv, oneEv, guardEv, opEv, St.opd, look, setT, St.put, St.new, St.read, lookL, setL, cellsAt_cons, argsT, resEv, bin_andNot, bin_une, bin_ilt, in_agg, in_loc, List.contains_cons, List.contains_nil, loc_int, cells_agg, keepT, keepL, List.map, List.length, List.take, List.drop, List.take_succ_cons, Option.map_some, Nat.reduceEqDiff, Nat.reduceAdd, Nat.reduceLeDiff, Nat.reduceLT, if_true, if_false, Bool.false_and, Bool.and_false, Bool.or_false, Bool.not_true, beq_self_eq_true, Bool.false_eq_true, Nat.succ_ne_self, decide_true, decide_false, beq_tf, u_0, h1, h2, h2']
    · have h2' : (0 ≤ fr) := by omega
      by_cases h4 : fr ≤ to
      · have h4' : ¬ (to < fr) := by omega
        by_cases h3 : to ≤ 15
        · have h3' : ¬ (15 < to) := by omega
          simp only [codeEv, opsEv, oneEv, guardEv, opEv, St.opd, look, setT, St.put, St.new, St.read, lookL, setL, cellsAt_cons, argsT, resEv, bin_andNot, bin_une, bin_ilt, bin_igt, in_agg, in_loc, List.contains_cons, List.contains_nil, loc_int, cells_agg, keepT, keepL, List.map, List.length, List.take, List.drop, List.take_succ_cons, Option.map_some, Nat.reduceEqDiff, Nat.reduceAdd, Nat.reduceLeDiff, Nat.reduceLT, if_true, if_false, Bool.and_true, Bool.or_false, Bool.not_true, beq_self_eq_true, Bool.false_eq_true, Nat.succ_ne_self, decide_true, decide_false, u_0, h1, h2, h2', h3, h3', h4, h4']
        · have h3' : (15 < to) := by omega
          simp only [codeEv, opsEv, oneEv, guardEv, opEv, St.opd, look, setT, St.put, St.new, St.read, lookL, setL, cellsAt_cons, argsT, resEv, bin_andNot, bin_une, bin_ilt, bin_igt, in_agg, in_loc, List.contains_cons, List.contains_nil, loc_int, cells_agg, keepT, keepL, List.map, List.length, List.take, List.drop, List.take_succ_cons, Option.map_some, Nat.reduceEqDiff, Nat.reduceAdd, Nat.reduceLeDiff, Nat.reduceLT, if_true, if_false, Bool.and_true, Bool.and_false, Bool.or_false, Bool.not_true, beq_self_eq_true, Bool.false_eq_true, Nat.succ_ne_self, decide_true, decide_false, u_0, h1, h2, h2', h3, h3', h4, h4']
      · have h4' : (to < fr) := by omega
        simp only [codeEv, opsEv, oneEv, guardEv, opEv, St.opd, look, setT, St.put, St.new, St.read, lookL, setL, cellsAt_cons, argsT, resEv, bin_andNot, bin_une, bin_ilt, bin_igt, in_agg, in_loc, List.contains_cons, List.contains_nil, loc_int, cells_agg, keepT, keepL, List.map, List.length, List.take, List.drop, List.take_succ_cons, Option.map_some, Nat.reduceEqDiff, Nat.reduceAdd, Nat.reduceLeDiff, Nat.reduceLT, if_true, if_false, Bool.and_false, Bool.or_false, Bool.not_true, beq_self_eq_true, Bool.false_eq_true, Nat.succ_ne_self, decide_true, decide_false, beq_tf, u_0, h1, h2, h2', h4, h4']
  · simp only [codeEv, opsEv, oneEv, guardEv, opEv, St.opd, look, setT, St.put, St.new, St.read, lookL, setL, cellsAt_cons, argsT, resEv, bin_andNot, bin_une, in_agg, in_loc, List.contains_cons, List.contains_nil, loc_int, cells_agg, keepT, keepL, List.map, List.length, List.take, List.drop, List.take_succ_cons, Option.map_some, Nat.reduceEqDiff, Nat.reduceAdd, Nat.reduceLeDiff, Nat.reduceLT, if_true, if_false, Bool.false_and, Bool.or_false, Bool.not_false, beq_self_eq_true, Bool.false_eq_true, Nat.succ_ne_self, decide_false, beq_tf, u_0, h1]
theorem rfirst_spec (n : Nat) (m : Mem) : run A (n + 1) 46 [] m = some (mkA 0#32 0#32 0 0, m) := by
  rw [run_46]
  unfold fnEv a46 mkA
  simp only [codeEv, opsEv, oneEv, guardEv, opEv, St.opd, look, setT, St.put, St.new, St.read, St.write, lookL, setL, cellsAt_cons, splice, resEv, in_loc, List.contains_cons, List.contains_nil, one_int, loc_agg, cells_agg, one_U, fillEv, keepT, keepL, List.append_nil, List.map, List.length, List.take, List.drop, List.all, List.nil_append, List.take_succ_cons, List.drop_succ_cons, Nat.reduceEqDiff, Nat.reduceAdd, Nat.reduceLeDiff, Nat.reduceLT, if_true, if_false, Bool.and_true, Bool.or_false, Bool.not_false, List.isEmpty_cons, beq_self_eq_true, Bool.false_eq_true, Nat.succ_ne_self, u_0]

theorem rjoin_spec (n : Nat) (may must : BitVec 32) (fr to : Int) (may' must' : BitVec 32) (fr' to' : Int) (m : Mem) : run A (n + 2) 37 [mkA may must fr to, mkA may' must' fr' to'] m =
    some (if maskOk may must fr to && maskOk may' must' fr' to' then mkA (may ||| may') (must &&& must') (min fr fr') (max to to') else mkA 0#32 0#32 0 0, m) := by
  rw [run_37]
  have c1 := rcheck_sp n may must fr to
  have c2 := rcheck_sp n may' must' fr' to'
  have c3 := rfirst_spec n
  unfold mkA at c1 c2 c3
  unfold fnEv a37 mkA
  by_cases h1 : maskOk may must fr to = true
  · by_cases h2 : maskOk may' must' fr' to' = true
    · simp only [h1, h2, if_true] at c1 c2
      simp only [codeEv, opsEv, oneEv, guardEv, opEv, St.opd, look, setT, St.put, St.new, St.read, St.write, lookL, setL, cellsAt_cons, splice, argsT, resEv, bin_and, bin_or, bin_ine, in_agg, in_loc, List.contains_cons, List.contains_nil, one_int, loc_int, cells_int, loc_agg, cells_agg, one_U, cells_U, fillEv, callWith, keepT, keepL, List.append_nil, List.map, List.length, List.take, List.drop, List.all, List.any, List.cons_append, List.nil_append, List.take_succ_cons, List.drop_succ_cons, List.length_cons, Option.map_some, Nat.reduceEqDiff, Nat.reduceAdd, Nat.reduceLeDiff, Nat.reduceLT, if_true, if_false, Bool.and_true, Bool.or_true, Bool.or_false, Bool.true_or, Bool.not_true, Bool.not_false, List.isEmpty_cons, beq_self_eq_true, Bool.false_eq_true, Nat.succ_ne_self, decide_true, u_0, h1, h2, c1, c2, c3, max_i, min_i]
    · simp only [h1, h2, if_true] at c1 c2
      simp only [codeEv, opsEv, oneEv, guardEv, opEv, St.opd, look, setT, St.put, St.new, St.read, St.write, lookL, setL, cellsAt_cons, splice, argsT, resEv, bin_ine, in_agg, in_loc, List.contains_cons, List.contains_nil, one_int, loc_agg, cells_agg, one_U, callWith, keepT, keepL, List.append_nil, List.map, List.length, List.take, List.drop, List.all, List.any, List.nil_append, List.take_succ_cons, List.drop_succ_cons, Option.map_some, Nat.reduceEqDiff, Nat.reduceAdd, Nat.reduceLeDiff, Nat.reduceLT, if_true, if_false, Bool.and_true, Bool.and_false, Bool.or_true, Bool.or_false, Bool.true_or, Bool.not_true, Bool.not_false, List.isEmpty_cons, beq_self_eq_true, Bool.false_eq_true, Nat.succ_ne_self, decide_true, decide_false, u_0, h1, h2, c1, c2, c3, eq20]
  · simp only [h1] at c1
    simp only [codeEv, opsEv, oneEv, guardEv, opEv, St.opd, look, setT, St.put, St.new, St.read, St.write, lookL, setL, cellsAt_cons, splice, argsT, resEv, bin_ine, in_agg, in_loc, List.contains_cons, List.contains_nil, one_int, loc_agg, cells_agg, one_U, callWith, keepT, keepL, List.append_nil, List.map, List.length, List.take, List.drop, List.all, List.any, List.nil_append, List.take_succ_cons, List.drop_succ_cons, Option.map_some, Nat.reduceEqDiff, Nat.reduceAdd, Nat.reduceLeDiff, Nat.reduceLT, if_true, if_false, Bool.and_true, Bool.false_and, Bool.or_true, Bool.or_false, Bool.true_or, Bool.not_false, List.isEmpty_cons, beq_self_eq_true, Bool.false_eq_true, Nat.succ_ne_self, decide_false, beq_tf, u_0, h1, c1, c3, eq20]


theorem rcheck_mk (n : Nat) (a : Mk) (m : Mem) : run A (n + 1) 33 [a.av] m = some (.int .i64 (if a.ok then 0 else 2), m) := rcheck_sp n _ _ _ _ m
theorem rjoin_mk (n : Nat) (a b : Mk) (m : Mem) : run A (n + 2) 37 [a.av, b.av] m = some ((a.join b).av, m) := by
  unfold Mk.av
  rw [rjoin_spec]
  unfold Mk.join Mk.ok
  split <;> rfl
theorem rhas_spec (N : Nat) (hN : 5 ≤ N) (m : Mem) (a : Mk) (s : BitVec 32) (lv : Int) : run A N 35 [a.av, U s, .int .i64 lv] m = some (.bool (a.has s lv), m) := by
  obtain ⟨n, rfl⟩ : ∃ n, N = n + 2 := ⟨N - 2, by omega⟩
  rw [run_35]
  have ck := rcheck_mk n a m
  simp only [av_cells] at ck ⊢
  unfold fnEv a35 Mk.has
  by_cases h : a.ok = true
  · simp only [h, if_true] at ck
    by_cases c1 : a.must &&& ~~~s = 0#32
    · have c1 := eq_true c1
      by_cases c2 : s &&& ~~~a.may = 0#32
      · have c2 := eq_true c2
        by_cases c3 : a.fr ≤ lv
        · by_cases c4 : lv ≤ a.to
          · simp only [codeEv, opsEv, oneEv, guardEv, opE_mov, opE_pick, opE_box, opE_load1, opE_loadk, opE_bin, opE_faddr, opE_call, St.opd, look_set, look_cons, St.put, St.new, St.read, lookL, setL, cellsAt_cons, argsT, resEv, bin_andNot, bin_ueq, bin_ile, bin_ige, bin_ieq, in_int, in_U, in_agg, in_loc, List.contains_cons, List.contains_nil, loc_bool, loc_agg, cells_agg, callWith, keepL, List.map, List.length, List.take, List.drop, List.any, List.take_succ_cons, Option.map_some, Nat.reduceEqDiff, Nat.reduceAdd, Nat.reduceLeDiff, Nat.reduceLT, if_true, if_false, Bool.and_true, Bool.or_false, beq_self_eq_true, Bool.false_eq_true, Nat.succ_ne_self, decide_true, u_0, keepT_setT, keepT_lit, ck, h, c1, c2, c3, c4]
          · simp only [codeEv, opsEv, oneEv, guardEv, opE_mov, opE_pick, opE_box, opE_load1, opE_loadk, opE_bin, opE_faddr, opE_call, St.opd, look_set, look_cons, St.put, St.new, St.read, lookL, setL, cellsAt_cons, argsT, resEv, bin_andNot, bin_ueq, bin_ile, bin_ige, bin_ieq, in_int, in_U, in_agg, in_loc, List.contains_cons, List.contains_nil, loc_bool, loc_agg, cells_agg, callWith, keepL, List.map, List.length, List.take, List.drop, List.any, List.take_succ_cons, Option.map_some, Nat.reduceEqDiff, Nat.reduceAdd, Nat.reduceLeDiff, Nat.reduceLT, if_true, if_false, Bool.and_false, Bool.or_false, beq_self_eq_true, Bool.false_eq_true, Nat.succ_ne_self, decide_true, decide_false, u_0, keepT_setT, keepT_lit, ck, h, c1, c2, c3, c4]
        · simp only [codeEv, opsEv, oneEv, guardEv, opE_mov, opE_pick, opE_box, opE_load1, opE_loadk, opE_bin, opE_faddr, opE_call, St.opd, look_set, look_cons, St.put, St.new, St.read, lookL, setL, cellsAt_cons, argsT, resEv, bin_andNot, bin_ueq, bin_ige, bin_ieq, in_int, in_U, in_agg, in_loc, List.contains_cons, List.contains_nil, loc_bool, loc_agg, cells_agg, callWith, keepL, List.map, List.length, List.take, List.drop, List.any, List.take_succ_cons, Option.map_some, Nat.reduceEqDiff, Nat.reduceAdd, Nat.reduceLeDiff, Nat.reduceLT, if_true, if_false, Bool.false_and, Bool.and_false, Bool.or_false, beq_self_eq_true, Bool.false_eq_true, Nat.succ_ne_self, decide_true, decide_false, beq_ft, u_0, keepT_setT, keepT_lit, ck, h, c1, c2, c3]
      · simp only [codeEv, opsEv, oneEv, guardEv, opE_mov, opE_pick, opE_box, opE_load1, opE_loadk, opE_bin, opE_faddr, opE_call, St.opd, look_set, look_cons, St.put, St.new, St.read, lookL, setL, cellsAt_cons, argsT, resEv, bin_andNot, bin_ueq, bin_ieq, in_int, in_U, in_agg, in_loc, List.contains_cons, List.contains_nil, loc_bool, loc_agg, cells_agg, callWith, keepL, List.map, List.length, List.take, List.drop, List.any, List.take_succ_cons, Option.map_some, Nat.reduceEqDiff, Nat.reduceAdd, Nat.reduceLeDiff, Nat.reduceLT, if_true, if_false, Bool.false_and, Bool.and_false, Bool.or_false, beq_self_eq_true, Bool.false_eq_true, Nat.succ_ne_self, decide_true, decide_false, beq_ft, u_0, keepT_setT, keepT_lit, ck, h, c1, c2]
    · simp only [codeEv, opsEv, oneEv, guardEv, opE_mov, opE_pick, opE_box, opE_load1, opE_loadk, opE_bin, opE_faddr, opE_call, St.opd, look_set, look_cons, St.put, St.new, St.read, lookL, setL, cellsAt_cons, argsT, resEv, bin_andNot, bin_ueq, bin_ieq, in_int, in_U, in_agg, in_loc, List.contains_cons, List.contains_nil, loc_bool, loc_agg, cells_agg, callWith, keepL, List.map, List.length, List.take, List.drop, List.any, List.take_succ_cons, Option.map_some, Nat.reduceEqDiff, Nat.reduceAdd, Nat.reduceLeDiff, Nat.reduceLT, if_true, if_false, Bool.false_and, Bool.and_false, Bool.or_false, beq_self_eq_true, Bool.false_eq_true, Nat.succ_ne_self, decide_true, decide_false, beq_ft, u_0, keepT_setT, keepT_lit, ck, h, c1]
  · simp only [h] at ck
    simp only [codeEv, opsEv, oneEv, guardEv, opE_mov, opE_pick, opE_box, opE_loadk, opE_bin, opE_call, St.opd, look_set, look_cons, St.put, St.new, St.read, lookL, setL, cellsAt_cons, argsT, resEv, bin_ieq, in_int, in_U, in_agg, in_loc, List.contains_cons, List.contains_nil, loc_bool, loc_agg, cells_agg, callWith, keepL, List.map, List.length, List.take, List.drop, List.any, List.take_succ_cons, Option.map_some, Nat.reduceEqDiff, Nat.reduceAdd, Nat.reduceLeDiff, Nat.reduceLT, if_true, if_false, Bool.false_and, Bool.or_false, beq_self_eq_true, Bool.false_eq_true, Nat.succ_ne_self, decide_false, beq_ft, keepT_setT, keepT_lit, ck, h, eq20]
def Mk.rwithin (a b : Mk) : Bool := a.ok && (b.ok && (decide (a.may &&& ~~~b.may = 0#32) && (decide (b.must &&& ~~~a.must = 0#32) && (decide (b.fr ≤ a.fr) && decide (a.to ≤ b.to)))))
theorem rwithin_eq (a b : Mk) : a.rwithin b = a.within b := by
  rw [Bool.eq_iff_iff, within_iff]
  unfold Mk.rwithin
  simp only [Bool.and_eq_true, decide_eq_true_eq, sub_iff]
  exact Iff.rfl
theorem rwithin_mk (n : Nat) (a b : Mk) (m : Mem) : run A (n + 3) 36 [a.av, b.av] m = some (.bool (a.within b), m) := by
  rw [run_36, ← rwithin_eq]
  have c1 := rcheck_mk (n + 1) a m
  have c2 := rcheck_mk (n + 1) b m
  simp only [av_cells] at c1 c2 ⊢
  unfold fnEv a36 Mk.rwithin
  by_cases h1 : a.ok = true
  · by_cases h2 : b.ok = true
    · simp only [h1, h2, if_true] at c1 c2
      by_cases q1 : a.may &&& ~~~b.may = 0#32
      · have q1 := eq_true q1
        by_cases q2 : b.must &&& ~~~a.must = 0#32
        · have q2 := eq_true q2
          by_cases q3 : b.fr ≤ a.fr
          · by_cases q4 : a.to ≤ b.to
            · simp only [codeEv, opsEv, oneEv, guardEv, opE_mov, opE_pick, opE_box, opE_load1, opE_loadk, opE_bin, opE_faddr, opE_call, St.opd, look_set, look_cons, St.put, St.new, St.read, lookL, setL, cellsAt_cons, argsT, resEv, bin_andNot, bin_ueq, bin_ile, bin_ige, bin_ieq, in_agg, in_loc, List.contains_cons, List.contains_nil, loc_bool, loc_agg, cells_agg, callWith, keepL, List.map, List.length, List.take, List.drop, List.any, List.take_succ_cons, Option.map_some, Nat.reduceEqDiff, Nat.reduceAdd, Nat.reduceLeDiff, Nat.reduceLT, if_true, if_false, Bool.and_true, Bool.or_true, Bool.or_false, Bool.true_or, beq_self_eq_true, Bool.false_eq_true, Nat.succ_ne_self, decide_true, u_0, keepT_setT, keepT_lit, h1, h2, c1, c2, q1, q2, q3, q4]
            · simp only [codeEv, opsEv, oneEv, guardEv, opE_mov, opE_pick, opE_box, opE_load1, opE_loadk, opE_bin, opE_faddr, opE_call, St.opd, look_set, look_cons, St.put, St.new, St.read, lookL, setL, cellsAt_cons, argsT, resEv, bin_andNot, bin_ueq, bin_ile, bin_ige, bin_ieq, in_agg, in_loc, List.contains_cons, List.contains_nil, loc_bool, loc_agg, cells_agg, callWith, keepL, List.map, List.length, List.take, List.drop, List.any, List.take_succ_cons, Option.map_some, Nat.reduceEqDiff, Nat.reduceAdd, Nat.reduceLeDiff, Nat.reduceLT, if_true, if_false, Bool.and_false, Bool.or_true, Bool.or_false, Bool.true_or, beq_self_eq_true, Bool.false_eq_true, Nat.succ_ne_self, decide_true, decide_false, u_0, keepT_setT, keepT_lit, h1, h2, c1, c2, q1, q2, q3, q4]
          · simp only [codeEv, opsEv, oneEv, guardEv, opE_mov, opE_pick, opE_box, opE_load1, opE_loadk, opE_bin, opE_faddr, opE_call, St.opd, look_set, look_cons, St.put, St.new, St.read, lookL, setL, cellsAt_cons, argsT, resEv, bin_andNot, bin_ueq, bin_ige, bin_ieq, in_agg, in_loc, List.contains_cons, List.contains_nil, loc_bool, loc_agg, cells_agg, callWith, keepL, List.map, List.length, List.take, List.drop, List.any, List.take_succ_cons, Option.map_some, Nat.reduceEqDiff, Nat.reduceAdd, Nat.reduceLeDiff, Nat.reduceLT, if_true, if_false, Bool.false_and, Bool.and_false, Bool.or_true, Bool.or_false, Bool.true_or, beq_self_eq_true, Bool.false_eq_true, Nat.succ_ne_self, decide_true, decide_false, beq_ft, u_0, keepT_setT, keepT_lit, h1, h2, c1, c2, q1, q2, q3]
        · simp only [codeEv, opsEv, oneEv, guardEv, opE_mov, opE_pick, opE_box, opE_load1, opE_loadk, opE_bin, opE_faddr, opE_call, St.opd, look_set, look_cons, St.put, St.new, St.read, lookL, setL, cellsAt_cons, argsT, resEv, bin_andNot, bin_ueq, bin_ieq, in_agg, in_loc, List.contains_cons, List.contains_nil, loc_bool, loc_agg, cells_agg, callWith, keepL, List.map, List.length, List.take, List.drop, List.any, List.take_succ_cons, Option.map_some, Nat.reduceEqDiff, Nat.reduceAdd, Nat.reduceLeDiff, Nat.reduceLT, if_true, if_false, Bool.false_and, Bool.and_false, Bool.or_true, Bool.or_false, Bool.true_or, beq_self_eq_true, Bool.false_eq_true, Nat.succ_ne_self, decide_true, decide_false, beq_ft, u_0, keepT_setT, keepT_lit, h1, h2, c1, c2, q1, q2]
      · simp only [codeEv, opsEv, oneEv, guardEv, opE_mov, opE_pick, opE_box, opE_load1, opE_loadk, opE_bin, opE_faddr, opE_call, St.opd, look_set, look_cons, St.put, St.new, St.read, lookL, setL, cellsAt_cons, argsT, resEv, bin_andNot, bin_ueq, bin_ieq, in_agg, in_loc, List.contains_cons, List.contains_nil, loc_bool, loc_agg, cells_agg, callWith, keepL, List.map, List.length, List.take, List.drop, List.any, List.take_succ_cons, Option.map_some, Nat.reduceEqDiff, Nat.reduceAdd, Nat.reduceLeDiff, Nat.reduceLT, if_true, if_false, Bool.false_and, Bool.and_false, Bool.or_true, Bool.or_false, Bool.true_or, beq_self_eq_true, Bool.false_eq_true, Nat.succ_ne_self, decide_true, decide_false, beq_ft, u_0, keepT_setT, keepT_lit, h1, h2, c1, c2, q1]
    · simp only [h1, h2, if_true] at c1 c2
      simp only [codeEv, opsEv, oneEv, guardEv, opE_mov, opE_pick, opE_box, opE_loadk, opE_bin, opE_call, St.opd, look_set, look_cons, St.put, St.new, St.read, lookL, setL, cellsAt_cons, argsT, resEv, bin_ieq, in_agg, in_loc, List.contains_cons, List.contains_nil, loc_bool, loc_agg, cells_agg, callWith, keepL, List.map, List.length, List.take, List.drop, List.any, List.take_succ_cons, Option.map_some, Nat.reduceEqDiff, Nat.reduceAdd, Nat.reduceLeDiff, Nat.reduceLT, if_true, if_false, Bool.false_and, Bool.and_false, Bool.or_true, Bool.or_false, Bool.true_or, beq_self_eq_true, Bool.false_eq_true, Nat.succ_ne_self, decide_true, decide_false, beq_ft, keepT_setT, keepT_lit, h1, h2, c1, c2, eq20]
  · simp only [h1] at c1
    simp only [codeEv, opsEv, oneEv, guardEv, opE_mov, opE_pick, opE_box, opE_loadk, opE_bin, opE_call, St.opd, look_set, look_cons, St.put, St.new, St.read, lookL, setL, cellsAt_cons, argsT, resEv, bin_ieq, in_agg, in_loc, List.contains_cons, List.contains_nil, loc_bool, loc_agg, cells_agg, callWith, keepL, List.map, List.length, List.take, List.drop, List.any, List.take_succ_cons, Option.map_some, Nat.reduceEqDiff, Nat.reduceAdd, Nat.reduceLeDiff, Nat.reduceLT, if_true, if_false, Bool.false_and, Bool.or_true, Bool.or_false, Bool.true_or, beq_self_eq_true, Bool.false_eq_true, Nat.succ_ne_self, decide_false, beq_ft, keepT_setT, keepT_lit, h1, c1, eq20]

end AG
