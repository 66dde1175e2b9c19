/- What the functions of instructions and their texts compute, and the laws of that. -/
import Derived.Test.YtekljfhfjncmjaaDoorAgCg8
namespace AG
open Go Go.Proofs.YtekljfhfjncmjaaDoor
set_option maxRecDepth 100000
set_option maxHeartbeats 4000000



theorem lg5 (m m1 m2 : Mem) : logOk [.eff m m1, .rw (.loc 3 0) 4 false, .eff m1 m2, .rw (.loc 2 0) 4 false, .rw (.loc 3 0) 4 false] = true := rfl
theorem eq_ins (op a b c op' a' b' c' : Int) : eqEv (.agg [(0, 0), (1, 0), (2, 0), (3, 0)]) (.agg [.int .i64 op, .int .i64 a, .int .i64 b, .int .i64 c]) (.agg [.int .i64 op', .int .i64 a', .int .i64 b', .int .i64 c']) = some (decide (op = op' ∧ a = a' ∧ b = b' ∧ c = c')) := by
  simp only [eqEv, leavesEq, leafEq, List.getElem?_cons_zero, List.getElem?_cons_succ, if_true]
  by_cases h1 : op = op'
  · subst h1
    rw [beq_self_eq_true]
    by_cases h2 : a = a'
    · subst h2
      rw [beq_self_eq_true]
      by_cases h3 : b = b'
      · subst h3
        rw [beq_self_eq_true]
        by_cases h4 : c = c'
        · subst h4; simp
        · rw [show (c == c') = false by simp [h4]]; simp [h4]
      · rw [show (b == b') = false by simp [h3]]; simp [h3]
    · rw [show (a == a') = false by simp [h2]]; simp [h2]
  · rw [show (op == op') = false by simp [h1]]; simp [h1]
theorem kd_rm : (Kd.read = Kd.mem) = False := by simp
theorem kd_sm : (Kd.store = Kd.mem) = False := by simp
theorem eqb (a b : Bool) : eqEv .bool (.bool a) (.bool b) = some (a == b) := rfl
theorem str_eq (x y : ByteArray) : binEv .eql (.str x) (.str y) = some (.bool (x.toList == y.toList)) := rfl
theorem nil_eq : ((ByteArray.mk #[]).toList == (ByteArray.mk #[]).toList) = true := by decide +kernel
theorem text_eq (x y : ByteArray) : (x.toList == y.toList) = decide (x.data.toList = y.data.toList) := by
  rw [ByteArray.toList_eq, ByteArray.toList_eq, Bool.eq_iff_iff]
  simp
theorem apart_bad1 (N : Nat) (hN : 16 ≤ N) {op a b c : Int} (op' a' b' c' : Int) (m m' : Mem) (hl : run A N 11 [] m = some (.bool true, m')) (hT : Tab2 m') (hk : codeOk op a b c = false) : run A (N + 1) 3 [insA op a b c, insA op' a' b' c'] m = some (.bool true, m') := by
  rw [run_3]
  have hc := code_call N (by omega) op a b c m' hT.t
  rw [hk] at hc
  simp only [Bool.false_eq_true, if_false] at hc
  have ht := text_bad N (by omega) op a b c m' hT.t hk
  unfold insA at ht
  unfold fnEv a3 insA
  simp only [codeEv, opsEv, oneEv, guardEv, opE_mov, opE_pick, opE_box, opE_loadk, opE_bin, opE_un, opE_call, St.opd, look_set, look_nil, look_cons, St.put, St.new, St.read, lookL_nil, lookL_cons, setL_nil, setL_cons, cellsAt_cons, argsT, resEv, bin_ieq, bin_ine, in_agg, in_loc, List.contains_cons, List.contains_nil, loc_bool, loc_agg, cells_agg, unEv, callWith, keepL, List.map, List.length, List.take, List.drop, List.any, List.take_succ_cons, Option.map_some, Nat.reduceEqDiff, Int.reduceEq, Nat.reduceAdd, Nat.reduceLeDiff, Nat.reduceLT, if_true, if_false, Bool.or_true, Bool.or_false, Bool.true_or, Bool.not_true, Bool.not_false, beq_self_eq_true, Bool.false_eq_true, Nat.succ_ne_self, decide_false, beq_tf, keepT_setT, keepT_lit, List.take_succ_cons, a3_R1, a3_R2, hl, hc, ht, str_eq]
theorem apart_bad2 (N : Nat) (hN : 16 ≤ N) {op a b c op' a' b' c' : Int} (m m' : Mem) (hl : run A N 11 [] m = some (.bool true, m')) (hT : Tab2 m') (hk : codeOk op a b c = true) (hk' : codeOk op' a' b' c' = false) : run A (N + 1) 3 [insA op a b c, insA op' a' b' c'] m = some (.bool true, m') := by
  rw [run_3]
  have hc := code_call N (by omega) op a b c m' hT.t
  rw [hk] at hc
  simp only [if_true] at hc
  have hc' := code_call N (by omega) op' a' b' c' m' hT.t
  rw [hk'] at hc'
  simp only [Bool.false_eq_true, if_false] at hc'
  unfold fnEv a3 insA
  simp only [codeEv, opsEv, oneEv, guardEv, opE_mov, opE_pick, opE_box, opE_loadk, opE_bin, opE_un, opE_call, St.opd, look_set, look_nil, look_cons, St.put, St.new, St.read, lookL_nil, lookL_cons, setL_nil, setL_cons, cellsAt_cons, argsT, resEv, bin_ieq, bin_ine, in_agg, in_loc, List.contains_cons, List.contains_nil, loc_bool, loc_agg, cells_agg, unEv, callWith, keepL, List.map, List.length, List.take, List.drop, List.any, List.take_succ_cons, Option.map_some, Nat.reduceEqDiff, Int.reduceEq, Nat.reduceAdd, Nat.reduceLeDiff, Nat.reduceLT, if_true, if_false, Bool.or_true, Bool.or_false, Bool.true_or, Bool.not_true, Bool.not_false, beq_self_eq_true, Bool.false_eq_true, Nat.succ_ne_self, decide_true, decide_false, beq_tf, keepT_setT, keepT_lit, List.take_succ_cons, a3_R1, a3_R2, hl, hc, hc']
theorem apart_good (N : Nat) (hN : 16 ≤ N) {op a b c op' a' b' c' : Int} (m m' : Mem) (hl : run A N 11 [] m = some (.bool true, m')) (hT : Tab2 m') (h13 : 13 ≤ m'.n) (hmn : m'.n + 20 ≤ 2 ^ depth) (hk : codeOk op a b c = true) (hk' : codeOk op' a' b' c' = true) : ∃ m2, run A (N + 1) 3 [insA op a b c, insA op' a' b' c'] m = some (.bool true, m2) := by
  rw [run_3]
  have hc := code_call N (by omega) op a b c m' hT.t
  rw [hk] at hc
  have hc' := code_call N (by omega) op' a' b' c' m' hT.t
  rw [hk'] at hc'
  simp only [if_true] at hc hc'
  obtain ⟨m1, t1, x1, n1⟩ := text_good N (by omega) op a b c m' hT h13 (by omega) hk
  obtain ⟨m2, t2, x2, n2⟩ := text_good N (by omega) op' a' b' c' m1 (hT.ext x1 h13) (by have := x1.1; omega) (by omega) hk'
  have e1 : joinB (parts op a b c) ⟨#[32]⟩ = textB op a b c := by rw [textB, if_pos hk]
  have e2 : joinB (parts op' a' b' c') ⟨#[32]⟩ = textB op' a' b' c' := by rw [textB, if_pos hk']
  rw [e1] at t1
  rw [e2] at t2
  have key : ((textB op a b c).toList == (textB op' a' b' c').toList) = decide (op = op' ∧ a = a' ∧ b = b' ∧ c = c') := by
    rw [text_eq]
    by_cases h : op = op' ∧ a = a' ∧ b = b' ∧ c = c'
    · obtain ⟨rfl, rfl, rfl, rfl⟩ := h
      simp
    · have : ¬ (textB op a b c).data.toList = (textB op' a' b' c').data.toList := fun e => h (text_inj hk hk' e)
      rw [decide_eq_false this, decide_eq_false h]
  unfold insA at t1 t2
  unfold fnEv a3 insA
  exact ⟨m2, by simp only [codeEv, opsEv, oneEv, guardEv, opE_mov, opE_pick, opE_box, opE_loadk, opE_bin, opE_eq, opE_un, opE_call, St.opd, look_set, look_nil, look_cons, St.put, St.new, St.read, lookL_nil, lookL_cons, setL_nil, setL_cons, cellsAt_cons, argsT, resEv, bin_ine, in_agg, in_loc, List.contains_cons, List.contains_nil, loc_bool, loc_agg, cells_agg, unEv, callWith, keepL, careEv, dOneEv, dOpsEv, accOf, accEv, Option.toList_some, List.append_nil, List.map, List.length, List.take, List.drop, List.any, List.cons_append, List.nil_append, List.take_succ_cons, Option.map_some, Nat.reduceEqDiff, Nat.reduceAdd, Nat.reduceLeDiff, Nat.reduceLT, if_true, if_false, Bool.and_false, Bool.or_true, Bool.or_false, Bool.true_or, Bool.not_true, beq_self_eq_true, Bool.false_eq_true, Nat.succ_ne_self, decide_true, keepT_setT, keepT_lit, List.take_succ_cons, a3_R1, a3_R3, hl, hc, hc', t1, t2, str_eq, key, eq_ins, eqb, lg5, AOp.kd, kd_rm]⟩
theorem apart_run (N : Nat) (hN : 16 ≤ N) (op a b c op' a' b' c' : Int) (m m' : Mem) (hl : run A N 11 [] m = some (.bool true, m')) (hT : Tab2 m') (h13 : 13 ≤ m'.n) (hmn : m'.n + 20 ≤ 2 ^ depth) : ∃ m2, run A (N + 1) 3 [insA op a b c, insA op' a' b' c'] m = some (.bool true, m2) := by
  cases hk : codeOk op a b c
  · exact ⟨_, apart_bad1 N hN op' a' b' c' m m' hl hT hk⟩
  · cases hk' : codeOk op' a' b' c'
    · exact ⟨_, apart_bad2 N hN m m' hl hT hk hk'⟩
    · exact apart_good N hN m m' hl hT h13 hmn hk hk'

end AG
