/- What the functions of instructions compute, and the laws of that. -/
import Derived.Test.YtekljfhfjncmjaaDoorAgCg3
namespace AG
open Go Go.Proofs.YtekljfhfjncmjaaDoor
set_option maxRecDepth 100000
set_option maxHeartbeats 4000000



theorem eqb (a b : Bool) : eqEv .bool (.bool a) (.bool b) = some (a == b) := rfl
theorem goes_bad (N : Nat) (hN : 6 ≤ N) {op : Int} (a b c : Int) (m m' : Mem) (hl : run A N 11 [] m = some (.bool true, m')) (hT : Tab m') (v : AV) (l : List Int) (hv : RS iC 1 m' v l) (hk : codeOk op a b c = false) : run A (N + 1) 6 [insA op a b c, v] m = some (.bool true, m') := by
  rw [run_6]
  obtain ⟨p1, p2, p3, p4⟩ := hv.plain
  have p5 := hv.lenR
  have hc := code_call N (by omega) op a b c m' hT
  have hj := jumps_ex N (by omega) op a b c m' hT
  have he := eff_ex N (by omega) op a b c m' hT v l hv
  unfold insA at hj he
  unfold fnEv a6 insA
  rw [hk] at hc
  simp only [Bool.false_eq_true, if_false] at hc
  simp only [jumpsI, hk, Bool.false_eq_true, if_false] at hj
  simp only [codeEv, opsEv, oneEv, guardEv, opE_mov, opE_pick, opE_box, opE_loadk, opE_bin, opE_un, opE_ext, opE_call, St.opd, look_set, look_cons, St.put, St.new, St.read, lookL, setL, cellsAt_cons, argsT, resEv, bin_ieq, bin_ine, in_int, in_bool, in_agg, in_loc, List.contains_cons, List.contains_nil, loc_bool, loc_agg, cells_agg, unEv, callWith, keepL, List.map, List.length, List.take, List.drop, List.any, List.take_succ_cons, List.getElem?_cons_succ, List.getElem?_cons_zero, Option.map_some, Nat.reduceEqDiff, Int.reduceEq, Nat.reduceAdd, Nat.reduceLeDiff, Nat.reduceLT, if_true, if_false, Bool.or_false, Bool.not_true, Bool.not_false, beq_self_eq_true, Bool.false_eq_true, Nat.succ_ne_self, decide_true, decide_false, keepT_setT, keepT_lit, a6_R1, a6_R2, hc, hj, hl, p1]
theorem goes_long (N : Nat) (hN : 6 ≤ N) {op : Int} (a b c : Int) (m m' : Mem) (hl : run A N 11 [] m = some (.bool true, m')) (hT : Tab m') (v : AV) (l : List Int) (hv : RS iC 1 m' v l) (hk : codeOk op a b c = true) (hlen : (100 : Int) < (l.length : Int)) : run A (N + 1) 6 [insA op a b c, v] m = some (.bool true, m') := by
  rw [run_6]
  obtain ⟨p1, p2, p3, p4⟩ := hv.plain
  have p5 := hv.lenR
  have hc := code_call N (by omega) op a b c m' hT
  have hj := jumps_ex N (by omega) op a b c m' hT
  have he := eff_ex N (by omega) op a b c m' hT v l hv
  unfold insA at hj he
  unfold fnEv a6 insA
  rw [hk] at hc
  have hj' : ∃ x y z, jumpsI op a b c = .tup [.int .i64 x, .bool y, .bool z] := by
    unfold jumpsI
    repeat' split
    all_goals exact ⟨_, _, _, rfl⟩
  obtain ⟨x, y, z, hj'⟩ := hj'
  rw [hj'] at hj
  have he' : ∃ x y z, effI op a b c l = .tup [.int .i64 x, .int .i64 y, .bool z] := by
    unfold effI
    repeat' split
    all_goals exact ⟨_, _, _, rfl⟩
  obtain ⟨x', y', z', he'⟩ := he'
  rw [he'] at he
  rw [if_pos rfl] at hc
  simp only [codeEv, opsEv, oneEv, guardEv, opE_mov, opE_pick, opE_box, opE_loadk, opE_bin, opE_un, opE_ext, opE_call, opE_lenL, St.opd, look_set, look_cons, St.put, St.new, St.read, lookL, setL, cellsAt_cons, argsT, resEv, bin_igt, bin_ieq, bin_ine, in_int, in_bool, in_agg, in_loc, List.contains_cons, List.contains_nil, loc_bool, loc_agg, cells_agg, unEv, callWith, keepL, List.map, List.length, List.take, List.drop, List.any, List.take_succ_cons, List.getElem?_cons_succ, List.getElem?_cons_zero, Option.map_some, Nat.reduceEqDiff, Nat.reduceAdd, Nat.reduceLeDiff, Nat.reduceLT, if_true, if_false, Bool.or_false, Bool.not_true, beq_self_eq_true, Bool.false_eq_true, Nat.succ_ne_self, decide_true, keepT_setT, keepT_lit, a6_R1, a6_R2, a6_R3, hc, hj, hl, p1, p2, p5, he, hlen]
theorem goes_17a (N : Nat) (hN : 6 ≤ N) {op : Int} (a b c : Int) (m m' : Mem) (hl : run A N 11 [] m = some (.bool true, m')) (hT : Tab m') (v : AV) (l : List Int) (hv : RS iC 1 m' v l) (q17 : op = 17) (hk : codeOk op a b c = true) (hlen : ¬ (100 : Int) < (l.length : Int)) (hla : (l.length : Int) ≤ a) : run A (N + 1) 6 [insA op a b c, v] m = some (.bool true, m') := by
  rw [run_6]
  obtain ⟨p1, p2, p3, p4⟩ := hv.plain
  have p5 := hv.lenR
  have hc := code_call N (by omega) op a b c m' hT
  have hj := jumps_ex N (by omega) op a b c m' hT
  have he := eff_ex N (by omega) op a b c m' hT v l hv
  unfold insA at hj he
  unfold fnEv a6 insA
  rw [hk] at hc
  subst q17
  have ha := codeOk_call hk
  rw [if_pos rfl] at hc
  simp only [jumpsI, hk, if_true, Int.reduceEq, or_self, if_false] at hj
  have hla' : ¬ a < (l.length : Int) := by omega
  simp only [effI, hk, if_true, hla] at he
  simp only [codeEv, opsEv, oneEv, guardEv, opE_mov, opE_pick, opE_box, opE_load1, opE_loadk, opE_bin, opE_eq, opE_un, opE_faddr, opE_ext, opE_call, opE_lenL, St.opd, look_set, look_cons, St.put, St.new, St.read, lookL, setL, cellsAt_cons, argsT, resEv, bin_ilt, bin_igt, bin_ieq, bin_ine, in_int, in_bool, in_agg, in_loc, List.contains_cons, List.contains_nil, loc_bool, loc_agg, cells_agg, unEv, callWith, keepL, List.map, List.length, List.take, List.drop, List.any, List.take_succ_cons, List.getElem?_cons_succ, List.getElem?_cons_zero, Option.map_some, Nat.reduceEqDiff, Nat.reduceAdd, Nat.reduceLeDiff, Nat.reduceLT, if_true, if_false, Bool.or_false, Bool.not_true, Bool.not_false, beq_self_eq_true, Bool.false_eq_true, Nat.succ_ne_self, decide_true, decide_false, beq_tf, keepT_setT, keepT_lit, eqb, a6_R1, a6_R2, a6_R3, a6_R4, hc, hj, hl, p1, p2, p5, he, hlen, hla']
theorem goes_17b (N : Nat) (hN : 6 ≤ N) {op : Int} (a b c : Int) (m m' : Mem) (hl : run A N 11 [] m = some (.bool true, m')) (hT : Tab m') (v : AV) (l : List Int) (hv : RS iC 1 m' v l) (q17 : op = 17) (hk : codeOk op a b c = true) (hlen : ¬ (100 : Int) < (l.length : Int)) (hla : ¬ (l.length : Int) ≤ a) : run A (N + 1) 6 [insA op a b c, v] m = some (.bool true, m') := by
  rw [run_6]
  obtain ⟨p1, p2, p3, p4⟩ := hv.plain
  have p5 := hv.lenR
  have hc := code_call N (by omega) op a b c m' hT
  have hj := jumps_ex N (by omega) op a b c m' hT
  have he := eff_ex N (by omega) op a b c m' hT v l hv
  unfold insA at hj he
  unfold fnEv a6 insA
  rw [hk] at hc
  subst q17
  have ha := codeOk_call hk
  rw [if_pos rfl] at hc
  simp only [jumpsI, hk, if_true, Int.reduceEq, or_self, if_false] at hj
  have e17 : kx 5 (17 : Int).toNat = 1 := by decide +kernel
  have hla' : a < (l.length : Int) := by omega
  obtain ⟨x, hx⟩ : ∃ x, l[a.toNat]? = some x := ⟨l[a.toNat]'(by omega), by simp⟩
  have hd : l[a.toNat]?.getD 0 = x := by simp [hx]
  obtain ⟨B, O, C, ow, e1, e2, e3⟩ := NS.elem hv ha hx
  simp only [effI, hk, if_true, hla, if_false, e17, hd] at he
  simp only [codeEv, opsEv, oneEv, guardEv, opE_mov, opE_pick, opE_box, opE_load1, opE_loadk, opE_bin, opE_eq, opE_un, opE_faddr, opE_iaddrL, opE_ext, opE_call, opE_lenL, St.opd, look_set, look_cons, St.put, St.new, St.read, lookL, setL, cellsAt_cons, argsT, resEv, bin_ilt, bin_igt, bin_ieq, bin_ine, in_int, in_bool, in_agg, in_loc, List.contains_cons, List.contains_nil, loc_bool, loc_agg, cells_agg, unEv, callWith, keepL, List.map, List.length, List.take, List.drop, List.any, List.take_succ_cons, List.getElem?_cons_succ, List.getElem?_cons_zero, Option.map_some, Nat.reduceEqDiff, Nat.reduceAdd, Nat.reduceLeDiff, Nat.reduceLT, if_true, if_false, Bool.or_false, Bool.not_true, Bool.not_false, beq_self_eq_true, Bool.false_eq_true, Nat.succ_ne_self, decide_true, decide_false, keepT_setT, keepT_lit, eqb, a6_R1, a6_R2, a6_R3, a6_R4, hc, hj, hl, p1, p2, p5, he, hlen, hla', e1, e2, e3]
theorem goes_1_a (N : Nat) (hN : 6 ≤ N) {op : Int} (a b c : Int) (m m' : Mem) (hl : run A N 11 [] m = some (.bool true, m')) (hT : Tab m') (v : AV) (l : List Int) (hv : RS iC 1 m' v l) (q : op = 1) (hk : codeOk op a b c = true) (hlen : ¬ (100 : Int) < (l.length : Int)) (q0 : (0 : Int) = a) : run A (N + 1) 6 [insA op a b c, v] m = some (.bool true, m') := by
  rw [run_6]
  obtain ⟨p1, p2, p3, p4⟩ := hv.plain
  have p5 := hv.lenR
  have hc := code_call N (by omega) op a b c m' hT
  have hj := jumps_ex N (by omega) op a b c m' hT
  have he := eff_ex N (by omega) op a b c m' hT v l hv
  unfold insA at hj he
  unfold fnEv a6 insA
  rw [hk] at hc
  obtain ⟨h1, h2⟩ := codeOk_op hk
  obtain ⟨k1, k2, k3, k4⟩ := kx_small op h1 h2
  subst q
  rw [if_pos rfl] at hc
  simp only [jumpsI, hk, if_true, Int.reduceEq, true_or, if_false] at hj
  simp only [effI, hk, if_true, Int.reduceEq, if_false] at he
  have q0 := eq_true q0
  simp only [codeEv, opsEv, oneEv, guardEv, opE_mov, opE_pick, opE_box, opE_load1, opE_loadk, opE_bin, opE_eq, opE_un, opE_faddr, opE_ext, opE_call, opE_lenL, St.opd, look_set, look_cons, St.put, St.new, St.read, lookL, setL, cellsAt_cons, argsT, resEv, bin_ilt, bin_ile, bin_igt, bin_ige, bin_ieq, bin_ine, in_int, in_bool, in_agg, in_loc, List.contains_cons, List.contains_nil, loc_bool, loc_agg, cells_agg, unEv, callWith, keepL, List.map, List.length, List.take, List.drop, List.any, List.take_succ_cons, List.getElem?_cons_succ, List.getElem?_cons_zero, Option.map_some, Nat.reduceEqDiff, Int.reduceEq, Nat.reduceAdd, Nat.reduceLeDiff, Nat.reduceLT, if_true, if_false, Bool.or_false, Bool.not_true, Bool.not_false, beq_self_eq_true, Bool.false_eq_true, Nat.succ_ne_self, decide_true, decide_false, beq_tf, beq_ft, keepT_setT, keepT_lit, eqb, a6_R1, a6_R2, a6_R3, a6_R4, a6_R5, hc, hj, hl, p1, p2, p5, he, hlen, q0, k1, k2, k3, k4]
theorem goes_1_b (N : Nat) (hN : 6 ≤ N) {op : Int} (a b c : Int) (m m' : Mem) (hl : run A N 11 [] m = some (.bool true, m')) (hT : Tab m') (v : AV) (l : List Int) (hv : RS iC 1 m' v l) (q : op = 1) (hk : codeOk op a b c = true) (hlen : ¬ (100 : Int) < (l.length : Int)) (q0 : ¬ (0 : Int) = a) : run A (N + 1) 6 [insA op a b c, v] m = some (.bool true, m') := by
  rw [run_6]
  obtain ⟨p1, p2, p3, p4⟩ := hv.plain
  have p5 := hv.lenR
  have hc := code_call N (by omega) op a b c m' hT
  have hj := jumps_ex N (by omega) op a b c m' hT
  have he := eff_ex N (by omega) op a b c m' hT v l hv
  unfold insA at hj he
  unfold fnEv a6 insA
  rw [hk] at hc
  obtain ⟨h1, h2⟩ := codeOk_op hk
  obtain ⟨k1, k2, k3, k4⟩ := kx_small op h1 h2
  subst q
  rw [if_pos rfl] at hc
  simp only [jumpsI, hk, if_true, Int.reduceEq, true_or, if_false] at hj
  simp only [effI, hk, if_true, Int.reduceEq, if_false] at he
  skip
  simp only [codeEv, opsEv, oneEv, guardEv, opE_mov, opE_pick, opE_box, opE_load1, opE_loadk, opE_bin, opE_eq, opE_un, opE_faddr, opE_ext, opE_call, opE_lenL, St.opd, look_set, look_cons, St.put, St.new, St.read, lookL, setL, cellsAt_cons, argsT, resEv, bin_ilt, bin_ile, bin_igt, bin_ige, bin_ieq, bin_ine, in_int, in_bool, in_agg, in_loc, List.contains_cons, List.contains_nil, loc_bool, loc_agg, cells_agg, unEv, callWith, keepL, List.map, List.length, List.take, List.drop, List.any, List.take_succ_cons, List.getElem?_cons_succ, List.getElem?_cons_zero, Option.map_some, Nat.reduceEqDiff, Int.reduceEq, Nat.reduceAdd, Nat.reduceLeDiff, Nat.reduceLT, if_true, if_false, Bool.or_false, Bool.not_true, Bool.not_false, beq_self_eq_true, Bool.false_eq_true, Nat.succ_ne_self, decide_true, decide_false, beq_ft, keepT_setT, keepT_lit, eqb, a6_R1, a6_R2, a6_R3, a6_R4, a6_R5, hc, hj, hl, p1, p2, p5, he, hlen, q0, k1, k2, k3, k4]
theorem goes_18_a (N : Nat) (hN : 6 ≤ N) {op : Int} (a b c : Int) (m m' : Mem) (hl : run A N 11 [] m = some (.bool true, m')) (hT : Tab m') (v : AV) (l : List Int) (hv : RS iC 1 m' v l) (q : op = 18) (hk : codeOk op a b c = true) (hlen : ¬ (100 : Int) < (l.length : Int)) (q0 : (0 : Int) = a) : run A (N + 1) 6 [insA op a b c, v] m = some (.bool true, m') := by
  rw [run_6]
  obtain ⟨p1, p2, p3, p4⟩ := hv.plain
  have p5 := hv.lenR
  have hc := code_call N (by omega) op a b c m' hT
  have hj := jumps_ex N (by omega) op a b c m' hT
  have he := eff_ex N (by omega) op a b c m' hT v l hv
  unfold insA at hj he
  unfold fnEv a6 insA
  rw [hk] at hc
  obtain ⟨h1, h2⟩ := codeOk_op hk
  obtain ⟨k1, k2, k3, k4⟩ := kx_small op h1 h2
  subst q
  rw [if_pos rfl] at hc
  simp only [jumpsI, hk, if_true, Int.reduceEq, or_true, if_false] at hj
  simp only [effI, hk, if_true, Int.reduceEq, if_false] at he
  have q0 := eq_true q0
  simp only [codeEv, opsEv, oneEv, guardEv, opE_mov, opE_pick, opE_box, opE_load1, opE_loadk, opE_bin, opE_eq, opE_un, opE_faddr, opE_ext, opE_call, opE_lenL, St.opd, look_set, look_cons, St.put, St.new, St.read, lookL, setL, cellsAt_cons, argsT, resEv, bin_ilt, bin_ile, bin_igt, bin_ige, bin_ieq, bin_ine, in_int, in_bool, in_agg, in_loc, List.contains_cons, List.contains_nil, loc_bool, loc_agg, cells_agg, unEv, callWith, keepL, List.map, List.length, List.take, List.drop, List.any, List.take_succ_cons, List.getElem?_cons_succ, List.getElem?_cons_zero, Option.map_some, Nat.reduceEqDiff, Int.reduceEq, Nat.reduceAdd, Nat.reduceLeDiff, Nat.reduceLT, if_true, if_false, Bool.or_false, Bool.not_true, Bool.not_false, beq_self_eq_true, Bool.false_eq_true, Nat.succ_ne_self, decide_true, decide_false, beq_tf, beq_ft, keepT_setT, keepT_lit, eqb, a6_R1, a6_R2, a6_R3, a6_R4, a6_R5, hc, hj, hl, p1, p2, p5, he, hlen, q0, k1, k2, k3, k4]
theorem goes_18_b (N : Nat) (hN : 6 ≤ N) {op : Int} (a b c : Int) (m m' : Mem) (hl : run A N 11 [] m = some (.bool true, m')) (hT : Tab m') (v : AV) (l : List Int) (hv : RS iC 1 m' v l) (q : op = 18) (hk : codeOk op a b c = true) (hlen : ¬ (100 : Int) < (l.length : Int)) (q0 : ¬ (0 : Int) = a) : run A (N + 1) 6 [insA op a b c, v] m = some (.bool true, m') := by
  rw [run_6]
  obtain ⟨p1, p2, p3, p4⟩ := hv.plain
  have p5 := hv.lenR
  have hc := code_call N (by omega) op a b c m' hT
  have hj := jumps_ex N (by omega) op a b c m' hT
  have he := eff_ex N (by omega) op a b c m' hT v l hv
  unfold insA at hj he
  unfold fnEv a6 insA
  rw [hk] at hc
  obtain ⟨h1, h2⟩ := codeOk_op hk
  obtain ⟨k1, k2, k3, k4⟩ := kx_small op h1 h2
  subst q
  rw [if_pos rfl] at hc
  simp only [jumpsI, hk, if_true, Int.reduceEq, or_true, if_false] at hj
  simp only [effI, hk, if_true, Int.reduceEq, if_false] at he
  skip
  simp only [codeEv, opsEv, oneEv, guardEv, opE_mov, opE_pick, opE_box, opE_load1, opE_loadk, opE_bin, opE_eq, opE_un, opE_faddr, opE_ext, opE_call, opE_lenL, St.opd, look_set, look_cons, St.put, St.new, St.read, lookL, setL, cellsAt_cons, argsT, resEv, bin_ilt, bin_ile, bin_igt, bin_ige, bin_ieq, bin_ine, in_int, in_bool, in_agg, in_loc, List.contains_cons, List.contains_nil, loc_bool, loc_agg, cells_agg, unEv, callWith, keepL, List.map, List.length, List.take, List.drop, List.any, List.take_succ_cons, List.getElem?_cons_succ, List.getElem?_cons_zero, Option.map_some, Nat.reduceEqDiff, Int.reduceEq, Nat.reduceAdd, Nat.reduceLeDiff, Nat.reduceLT, if_true, if_false, Bool.or_false, Bool.not_true, Bool.not_false, beq_self_eq_true, Bool.false_eq_true, Nat.succ_ne_self, decide_true, decide_false, beq_ft, keepT_setT, keepT_lit, eqb, a6_R1, a6_R2, a6_R3, a6_R4, a6_R5, hc, hj, hl, p1, p2, p5, he, hlen, q0, k1, k2, k3, k4]
theorem goes_15_a (N : Nat) (hN : 6 ≤ N) {op : Int} (a b c : Int) (m m' : Mem) (hl : run A N 11 [] m = some (.bool true, m')) (hT : Tab m') (v : AV) (l : List Int) (hv : RS iC 1 m' v l) (q : op = 15) (hk : codeOk op a b c = true) (hlen : ¬ (100 : Int) < (l.length : Int)) (q0 : (0 : Int) = a) : run A (N + 1) 6 [insA op a b c, v] m = some (.bool true, m') := by
  rw [run_6]
  obtain ⟨p1, p2, p3, p4⟩ := hv.plain
  have p5 := hv.lenR
  have hc := code_call N (by omega) op a b c m' hT
  have hj := jumps_ex N (by omega) op a b c m' hT
  have he := eff_ex N (by omega) op a b c m' hT v l hv
  unfold insA at hj he
  unfold fnEv a6 insA
  rw [hk] at hc
  obtain ⟨h1, h2⟩ := codeOk_op hk
  obtain ⟨k1, k2, k3, k4⟩ := kx_small op h1 h2
  subst q
  rw [if_pos rfl] at hc
  simp only [jumpsI, hk, if_true, Int.reduceEq, or_self, if_false] at hj
  simp only [effI, hk, if_true, Int.reduceEq, if_false] at he
  have q0 := eq_true q0
  simp only [codeEv, opsEv, oneEv, guardEv, opE_mov, opE_pick, opE_box, opE_load1, opE_loadk, opE_bin, opE_eq, opE_un, opE_faddr, opE_ext, opE_call, opE_lenL, St.opd, look_set, look_cons, St.put, St.new, St.read, lookL, setL, cellsAt_cons, argsT, resEv, bin_ilt, bin_ile, bin_igt, bin_ige, bin_ieq, bin_ine, in_int, in_bool, in_agg, in_loc, List.contains_cons, List.contains_nil, loc_bool, loc_agg, cells_agg, unEv, callWith, keepL, List.map, List.length, List.take, List.drop, List.any, List.take_succ_cons, List.getElem?_cons_succ, List.getElem?_cons_zero, Option.map_some, Nat.reduceEqDiff, Int.reduceEq, Nat.reduceAdd, Nat.reduceLeDiff, Nat.reduceLT, if_true, if_false, Bool.or_false, Bool.not_true, Bool.not_false, beq_self_eq_true, Bool.false_eq_true, Nat.succ_ne_self, decide_true, decide_false, beq_tf, beq_ft, keepT_setT, keepT_lit, eqb, a6_R1, a6_R2, a6_R3, a6_R4, a6_R5, hc, hj, hl, p1, p2, p5, he, hlen, k1, k2, k3, k4]
theorem goes_15_b (N : Nat) (hN : 6 ≤ N) {op : Int} (a b c : Int) (m m' : Mem) (hl : run A N 11 [] m = some (.bool true, m')) (hT : Tab m') (v : AV) (l : List Int) (hv : RS iC 1 m' v l) (q : op = 15) (hk : codeOk op a b c = true) (hlen : ¬ (100 : Int) < (l.length : Int)) (q0 : ¬ (0 : Int) = a) : run A (N + 1) 6 [insA op a b c, v] m = some (.bool true, m') := by
  rw [run_6]
  obtain ⟨p1, p2, p3, p4⟩ := hv.plain
  have p5 := hv.lenR
  have hc := code_call N (by omega) op a b c m' hT
  have hj := jumps_ex N (by omega) op a b c m' hT
  have he := eff_ex N (by omega) op a b c m' hT v l hv
  unfold insA at hj he
  unfold fnEv a6 insA
  rw [hk] at hc
  obtain ⟨h1, h2⟩ := codeOk_op hk
  obtain ⟨k1, k2, k3, k4⟩ := kx_small op h1 h2
  subst q
  rw [if_pos rfl] at hc
  simp only [jumpsI, hk, if_true, Int.reduceEq, or_self, if_false] at hj
  simp only [effI, hk, if_true, Int.reduceEq, if_false] at he
  skip
  simp only [codeEv, opsEv, oneEv, guardEv, opE_mov, opE_pick, opE_box, opE_load1, opE_loadk, opE_bin, opE_eq, opE_un, opE_faddr, opE_ext, opE_call, opE_lenL, St.opd, look_set, look_cons, St.put, St.new, St.read, lookL, setL, cellsAt_cons, argsT, resEv, bin_ilt, bin_ile, bin_igt, bin_ige, bin_ieq, bin_ine, in_int, in_bool, in_agg, in_loc, List.contains_cons, List.contains_nil, loc_bool, loc_agg, cells_agg, unEv, callWith, keepL, List.map, List.length, List.take, List.drop, List.any, List.take_succ_cons, List.getElem?_cons_succ, List.getElem?_cons_zero, Option.map_some, Nat.reduceEqDiff, Int.reduceEq, Nat.reduceAdd, Nat.reduceLeDiff, Nat.reduceLT, if_true, if_false, Bool.or_false, Bool.not_true, Bool.not_false, beq_self_eq_true, Bool.false_eq_true, Nat.succ_ne_self, decide_true, decide_false, beq_tf, beq_ft, keepT_setT, keepT_lit, eqb, a6_R1, a6_R2, a6_R3, a6_R4, a6_R5, hc, hj, hl, p1, p2, p5, he, hlen, k1, k2, k3, k4]
theorem goes_16_a (N : Nat) (hN : 6 ≤ N) {op : Int} (a b c : Int) (m m' : Mem) (hl : run A N 11 [] m = some (.bool true, m')) (hT : Tab m') (v : AV) (l : List Int) (hv : RS iC 1 m' v l) (q : op = 16) (hk : codeOk op a b c = true) (hlen : ¬ (100 : Int) < (l.length : Int)) (q0 : (0 : Int) = a) : run A (N + 1) 6 [insA op a b c, v] m = some (.bool true, m') := by
  rw [run_6]
  obtain ⟨p1, p2, p3, p4⟩ := hv.plain
  have p5 := hv.lenR
  have hc := code_call N (by omega) op a b c m' hT
  have hj := jumps_ex N (by omega) op a b c m' hT
  have he := eff_ex N (by omega) op a b c m' hT v l hv
  unfold insA at hj he
  unfold fnEv a6 insA
  rw [hk] at hc
  obtain ⟨h1, h2⟩ := codeOk_op hk
  obtain ⟨k1, k2, k3, k4⟩ := kx_small op h1 h2
  subst q
  rw [if_pos rfl] at hc
  simp only [jumpsI, hk, if_true, Int.reduceEq, or_self, if_false] at hj
  simp only [effI, hk, if_true, Int.reduceEq, if_false] at he
  have q0 := eq_true q0
  simp only [codeEv, opsEv, oneEv, guardEv, opE_mov, opE_pick, opE_box, opE_load1, opE_loadk, opE_bin, opE_eq, opE_un, opE_faddr, opE_ext, opE_call, opE_lenL, St.opd, look_set, look_cons, St.put, St.new, St.read, lookL, setL, cellsAt_cons, argsT, resEv, bin_ilt, bin_ile, bin_igt, bin_ige, bin_ieq, bin_ine, in_int, in_bool, in_agg, in_loc, List.contains_cons, List.contains_nil, loc_bool, loc_agg, cells_agg, unEv, callWith, keepL, List.map, List.length, List.take, List.drop, List.any, List.take_succ_cons, List.getElem?_cons_succ, List.getElem?_cons_zero, Option.map_some, Nat.reduceEqDiff, Int.reduceEq, Nat.reduceAdd, Nat.reduceLeDiff, Nat.reduceLT, if_true, if_false, Bool.or_false, Bool.not_true, Bool.not_false, beq_self_eq_true, Bool.false_eq_true, Nat.succ_ne_self, decide_true, decide_false, beq_tf, beq_ft, keepT_setT, keepT_lit, eqb, a6_R1, a6_R2, a6_R3, a6_R4, a6_R5, hc, hj, hl, p1, p2, p5, he, hlen, k1, k2, k3, k4]
theorem goes_16_b (N : Nat) (hN : 6 ≤ N) {op : Int} (a b c : Int) (m m' : Mem) (hl : run A N 11 [] m = some (.bool true, m')) (hT : Tab m') (v : AV) (l : List Int) (hv : RS iC 1 m' v l) (q : op = 16) (hk : codeOk op a b c = true) (hlen : ¬ (100 : Int) < (l.length : Int)) (q0 : ¬ (0 : Int) = a) : run A (N + 1) 6 [insA op a b c, v] m = some (.bool true, m') := by
  rw [run_6]
  obtain ⟨p1, p2, p3, p4⟩ := hv.plain
  have p5 := hv.lenR
  have hc := code_call N (by omega) op a b c m' hT
  have hj := jumps_ex N (by omega) op a b c m' hT
  have he := eff_ex N (by omega) op a b c m' hT v l hv
  unfold insA at hj he
  unfold fnEv a6 insA
  rw [hk] at hc
  obtain ⟨h1, h2⟩ := codeOk_op hk
  obtain ⟨k1, k2, k3, k4⟩ := kx_small op h1 h2
  subst q
  rw [if_pos rfl] at hc
  simp only [jumpsI, hk, if_true, Int.reduceEq, or_self, if_false] at hj
  simp only [effI, hk, if_true, Int.reduceEq, if_false] at he
  skip
  simp only [codeEv, opsEv, oneEv, guardEv, opE_mov, opE_pick, opE_box, opE_load1, opE_loadk, opE_bin, opE_eq, opE_un, opE_faddr, opE_ext, opE_call, opE_lenL, St.opd, look_set, look_cons, St.put, St.new, St.read, lookL, setL, cellsAt_cons, argsT, resEv, bin_ilt, bin_ile, bin_igt, bin_ige, bin_ieq, bin_ine, in_int, in_bool, in_agg, in_loc, List.contains_cons, List.contains_nil, loc_bool, loc_agg, cells_agg, unEv, callWith, keepL, List.map, List.length, List.take, List.drop, List.any, List.take_succ_cons, List.getElem?_cons_succ, List.getElem?_cons_zero, Option.map_some, Nat.reduceEqDiff, Int.reduceEq, Nat.reduceAdd, Nat.reduceLeDiff, Nat.reduceLT, if_true, if_false, Bool.or_false, Bool.not_true, Bool.not_false, beq_self_eq_true, Bool.false_eq_true, Nat.succ_ne_self, decide_true, decide_false, beq_tf, beq_ft, keepT_setT, keepT_lit, eqb, a6_R1, a6_R2, a6_R3, a6_R4, a6_R5, hc, hj, hl, p1, p2, p5, he, hlen, k1, k2, k3, k4]
theorem goes_e_a (N : Nat) (hN : 6 ≤ N) {op : Int} (a b c : Int) (m m' : Mem) (hl : run A N 11 [] m = some (.bool true, m')) (hT : Tab m') (v : AV) (l : List Int) (hv : RS iC 1 m' v l) (q17 : ¬ op = 17) (q1 : ¬ op = 1) (q18 : ¬ op = 18) (q15 : ¬ op = 15) (q16 : ¬ op = 16) (hk : codeOk op a b c = true) (hlen : ¬ (100 : Int) < (l.length : Int)) (q0 : (0 : Int) = a) : run A (N + 1) 6 [insA op a b c, v] m = some (.bool true, m') := by
  rw [run_6]
  obtain ⟨p1, p2, p3, p4⟩ := hv.plain
  have p5 := hv.lenR
  have hc := code_call N (by omega) op a b c m' hT
  have hj := jumps_ex N (by omega) op a b c m' hT
  have he := eff_ex N (by omega) op a b c m' hT v l hv
  unfold insA at hj he
  unfold fnEv a6 insA
  rw [hk] at hc
  obtain ⟨h1, h2⟩ := codeOk_op hk
  obtain ⟨k1, k2, k3, k4⟩ := kx_small op h1 h2
  rw [if_pos rfl] at hc
  simp only [jumpsI, hk, if_true, or_self, if_false, q1, q18, q15, q16] at hj
  simp only [effI, hk, if_true, if_false, q17] at he
  have q0 := eq_true q0
  simp only [codeEv, opsEv, oneEv, guardEv, opE_mov, opE_pick, opE_box, opE_load1, opE_loadk, opE_bin, opE_eq, opE_un, opE_faddr, opE_iaddrL, opE_ext, opE_call, opE_lenL, St.opd, look_set, look_cons, St.put, St.new, St.read, lookL, setL, cellsAt_cons, argsT, resEv, bin_ilt, bin_ile, bin_igt, bin_ige, bin_ieq, bin_ine, in_int, in_bool, in_agg, in_loc, List.contains_cons, List.contains_nil, loc_bool, loc_agg, cells_agg, unEv, callWith, keepL, List.map, List.length, List.take, List.drop, List.any, List.take_succ_cons, List.getElem?_cons_succ, List.getElem?_cons_zero, Option.map_some, Nat.reduceEqDiff, Nat.reduceAdd, Nat.reduceLeDiff, Nat.reduceLT, if_true, if_false, Bool.or_false, Bool.not_true, Bool.not_false, beq_self_eq_true, Bool.false_eq_true, Nat.succ_ne_self, decide_true, decide_false, beq_tf, keepT_setT, keepT_lit, eqb, a6_R1, a6_R2, a6_R3, a6_R4, a6_R5, hc, hj, hl, p1, p2, p5, he, hlen, q0, k1, k2, k3, k4, q17, q1, q18, q15, q16]
theorem goes_e_b (N : Nat) (hN : 6 ≤ N) {op : Int} (a b c : Int) (m m' : Mem) (hl : run A N 11 [] m = some (.bool true, m')) (hT : Tab m') (v : AV) (l : List Int) (hv : RS iC 1 m' v l) (q17 : ¬ op = 17) (q1 : ¬ op = 1) (q18 : ¬ op = 18) (q15 : ¬ op = 15) (q16 : ¬ op = 16) (hk : codeOk op a b c = true) (hlen : ¬ (100 : Int) < (l.length : Int)) (q0 : ¬ (0 : Int) = a) : run A (N + 1) 6 [insA op a b c, v] m = some (.bool true, m') := by
  rw [run_6]
  obtain ⟨p1, p2, p3, p4⟩ := hv.plain
  have p5 := hv.lenR
  have hc := code_call N (by omega) op a b c m' hT
  have hj := jumps_ex N (by omega) op a b c m' hT
  have he := eff_ex N (by omega) op a b c m' hT v l hv
  unfold insA at hj he
  unfold fnEv a6 insA
  rw [hk] at hc
  obtain ⟨h1, h2⟩ := codeOk_op hk
  obtain ⟨k1, k2, k3, k4⟩ := kx_small op h1 h2
  rw [if_pos rfl] at hc
  simp only [jumpsI, hk, if_true, or_self, if_false, q1, q18, q15, q16] at hj
  simp only [effI, hk, if_true, if_false, q17] at he
  skip
  simp only [codeEv, opsEv, oneEv, guardEv, opE_mov, opE_pick, opE_box, opE_load1, opE_loadk, opE_bin, opE_eq, opE_un, opE_faddr, opE_iaddrL, opE_ext, opE_call, opE_lenL, St.opd, look_set, look_cons, St.put, St.new, St.read, lookL, setL, cellsAt_cons, argsT, resEv, bin_ilt, bin_ile, bin_igt, bin_ige, bin_ieq, bin_ine, in_int, in_bool, in_agg, in_loc, List.contains_cons, List.contains_nil, loc_bool, loc_agg, cells_agg, unEv, callWith, keepL, List.map, List.length, List.take, List.drop, List.any, List.take_succ_cons, List.getElem?_cons_succ, List.getElem?_cons_zero, Option.map_some, Nat.reduceEqDiff, Nat.reduceAdd, Nat.reduceLeDiff, Nat.reduceLT, if_true, if_false, Bool.or_false, Bool.not_true, Bool.not_false, beq_self_eq_true, Bool.false_eq_true, Nat.succ_ne_self, decide_true, decide_false, keepT_setT, keepT_lit, eqb, a6_R1, a6_R2, a6_R3, a6_R4, a6_R5, hc, hj, hl, p1, p2, p5, he, hlen, q0, k1, k2, k3, k4, q17, q1, q18, q15, q16]

theorem goes_run (N : Nat) (hN : 6 ≤ N) (op a b c : Int) (m m' : Mem) (hl : run A N 11 [] m = some (.bool true, m')) (hT : Tab m') (v : AV) (l : List Int) (hv : RS iC 1 m' v l) : run A (N + 1) 6 [insA op a b c, v] m = some (.bool true, m') := by
  cases hk : codeOk op a b c
  · exact goes_bad N hN a b c m m' hl hT v l hv hk
  by_cases hlen : (100 : Int) < (l.length : Int)
  · exact goes_long N hN a b c m m' hl hT v l hv hk hlen
  by_cases q17 : op = 17
  · by_cases hla : (l.length : Int) ≤ a
    · exact goes_17a N hN a b c m m' hl hT v l hv q17 hk hlen hla
    · exact goes_17b N hN a b c m m' hl hT v l hv q17 hk hlen hla
  by_cases q1 : op = 1
  · by_cases q0 : (0 : Int) = a
    · exact goes_1_a N hN a b c m m' hl hT v l hv q1 hk hlen q0
    · exact goes_1_b N hN a b c m m' hl hT v l hv q1 hk hlen q0
  by_cases q18 : op = 18
  · by_cases q0 : (0 : Int) = a
    · exact goes_18_a N hN a b c m m' hl hT v l hv q18 hk hlen q0
    · exact goes_18_b N hN a b c m m' hl hT v l hv q18 hk hlen q0
  by_cases q15 : op = 15
  · by_cases q0 : (0 : Int) = a
    · exact goes_15_a N hN a b c m m' hl hT v l hv q15 hk hlen q0
    · exact goes_15_b N hN a b c m m' hl hT v l hv q15 hk hlen q0
  by_cases q16 : op = 16
  · by_cases q0 : (0 : Int) = a
    · exact goes_16_a N hN a b c m m' hl hT v l hv q16 hk hlen q0
    · exact goes_16_b N hN a b c m m' hl hT v l hv q16 hk hlen q0
  by_cases q0 : (0 : Int) = a
  · exact goes_e_a N hN a b c m m' hl hT v l hv q17 q1 q18 q15 q16 hk hlen q0
  · exact goes_e_b N hN a b c m m' hl hT v l hv q17 q1 q18 q15 q16 hk hlen q0

end AG
