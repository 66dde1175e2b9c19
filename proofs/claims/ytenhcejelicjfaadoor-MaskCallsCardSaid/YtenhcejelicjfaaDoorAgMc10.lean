/- What the functions of masks and sets compute, and the laws of that. -/
import Derived.Test.YtenhcejelicjfaaDoorAgMc9
namespace AG
open Go Go.Proofs.YtenhcejelicjfaaDoor
set_option maxRecDepth 100000
set_option maxHeartbeats 4000000



/-- The line of an instruction. -/
def sh (a : Int) : Int := IntKind.i64.wrap ((BitVec.ofInt 64 a &&& BitVec.ofInt 64 31).toNat : Int)
theorem and31 (a : Int) : binEv .and (.int .i64 a) (.int .i64 31) = some (.int .i64 (sh a)) := rfl
theorem sh_nonneg (a : Int) : 0 ≤ sh a := by
  unfold sh
  have h : (BitVec.ofInt 64 a &&& BitVec.ofInt 64 31).toNat ≤ 31 := by
    rw [BitVec.toNat_and]
    exact Nat.and_le_right
  generalize (BitVec.ofInt 64 a &&& BitVec.ofInt 64 31).toNat = k at h
  simp only [IntKind.wrap, IntKind.bits]
  simp [IntKind.signed]
  omega

def bit (a : Int) : BitVec 32 := 1#32 <<< (sh a).toNat
theorem one_shl (a : Int) : binEv .shl (U 1#32) (.int .i64 (sh a)) = some (U (bit a)) := bin_shl _ _ _ (sh_nonneg a)

/-- The mask behind an instruction; e: what its check tells. -/
def Mk.doI (e op a : Int) (M : Mk) : Mk :=
  if M.ok && decide (e = 0) then
    if op = 19 then ⟨M.may ||| bit a, M.must ||| bit a, M.fr, M.to⟩
    else if op = 20 then ⟨M.may &&& ~~~ bit a, M.must &&& ~~~ bit a, M.fr, M.to⟩
    else if op = 21 then ⟨M.may, M.must, a, a⟩
    else M
  else M

theorem lg1 : logOk [(.loc 2 1, 1, false), (.loc 3 2, 1, true)] = true := rfl

theorem do_mk (n : Nat) (op a b c e : Int) (M : Mk) (m : Mem) (he : run A (n + 4) 50 [insA op a b c] m = some (.int .i64 e, m)) : run A (n + 5) 27 [insA op a b c, M.av] m = some ((M.doI e op a).av, m) := by
  rw [run_27]
  have c1 := check_mk (n + 3) M m
  unfold insA at he ⊢
  simp only [av_cells] at c1 ⊢
  unfold fnEv a27 Mk.doI
  by_cases h1 : M.ok = true
  · by_cases h2 : e = 0
    · subst h2
      simp only [h1, if_true] at c1
      by_cases q1 : op = 19
      · subst q1
        simp only [codeEv, opsEv, oneEv, guardEv, opEv, St.opd, look, setT, St.put, St.new, St.read, St.write, lookL, setL, cellsAt_cons, splice, argsT, resEv, bin_or, bin_andNot, bin_ieq, bin_ine, in_int, in_U, in_agg, in_loc, List.contains_cons, List.contains_nil, one_int, cells_int, loc_agg, cells_agg, one_U, cells_U, callWith, keepT, keepL, careEv, dOneEv, dOpsEv, accOf, accEv, Option.toList_some, List.append_nil, List.map, List.length, List.take, List.drop, List.all, List.any, List.cons_append, List.nil_append, List.take_succ_cons, List.drop_succ_cons, Option.map_some, Nat.reduceEqDiff, Int.reduceEq, Nat.reduceAdd, Nat.reduceLeDiff, Nat.reduceLT, if_true, if_false, Bool.and_true, Bool.and_false, Bool.or_true, Bool.or_false, Bool.true_or, Bool.not_true, Bool.not_false, List.isEmpty_cons, beq_self_eq_true, Bool.false_eq_true, Nat.succ_ne_self, decide_true, decide_false, u_0, u_1, h1, he, c1, and31, one_shl]
      · by_cases q2 : op = 20
        · subst q2
          simp only [codeEv, opsEv, oneEv, guardEv, opEv, St.opd, look, setT, St.put, St.new, St.read, St.write, lookL, setL, cellsAt_cons, splice, argsT, resEv, bin_or, bin_andNot, bin_ieq, bin_ine, in_int, in_U, in_agg, in_loc, List.contains_cons, List.contains_nil, one_int, cells_int, loc_agg, cells_agg, one_U, cells_U, callWith, keepT, keepL, careEv, dOneEv, dOpsEv, accOf, accEv, Option.toList_some, List.append_nil, List.map, List.length, List.take, List.drop, List.all, List.any, List.cons_append, List.nil_append, List.take_succ_cons, List.drop_succ_cons, Option.map_some, Nat.reduceEqDiff, Int.reduceEq, Nat.reduceAdd, Nat.reduceLeDiff, Nat.reduceLT, if_true, if_false, Bool.and_true, Bool.and_false, Bool.or_true, Bool.or_false, Bool.true_or, Bool.not_true, Bool.not_false, List.isEmpty_cons, beq_self_eq_true, Bool.false_eq_true, Nat.succ_ne_self, decide_true, decide_false, u_0, u_1, h1, he, c1, and31, one_shl]
        · by_cases q3 : op = 21
          · subst q3
            simp only [codeEv, opsEv, oneEv, guardEv, opEv, St.opd, look, setT, St.put, St.new, St.read, St.write, lookL, setL, cellsAt_cons, splice, argsT, resEv, bin_or, bin_andNot, bin_ieq, bin_ine, in_int, in_U, in_agg, in_loc, List.contains_cons, List.contains_nil, one_int, cells_int, loc_agg, cells_agg, one_U, cells_U, callWith, keepT, keepL, careEv, dOneEv, dOpsEv, accOf, accEv, Option.toList_some, List.append_nil, List.map, List.length, List.take, List.drop, List.all, List.any, List.cons_append, List.nil_append, List.take_succ_cons, List.drop_succ_cons, Option.map_some, Nat.reduceEqDiff, Int.reduceEq, Nat.reduceAdd, Nat.reduceLeDiff, Nat.reduceLT, if_true, if_false, Bool.and_true, Bool.and_false, Bool.or_true, Bool.or_false, Bool.true_or, Bool.not_true, Bool.not_false, List.isEmpty_cons, beq_self_eq_true, Bool.false_eq_true, Nat.succ_ne_self, decide_true, decide_false, u_0, u_1, lg1, h1, he, c1, and31, one_shl]
          · simp only [codeEv, opsEv, oneEv, guardEv, opEv, St.opd, look, setT, St.put, St.new, St.read, St.write, lookL, setL, cellsAt_cons, splice, argsT, resEv, bin_or, bin_andNot, bin_ieq, bin_ine, in_int, in_U, in_agg, in_loc, List.contains_cons, List.contains_nil, one_int, cells_int, loc_agg, cells_agg, one_U, cells_U, callWith, keepT, keepL, careEv, dOneEv, dOpsEv, accOf, accEv, Option.toList_some, List.append_nil, List.map, List.length, List.take, List.drop, List.all, List.any, List.cons_append, List.nil_append, List.take_succ_cons, List.drop_succ_cons, Option.map_some, Nat.reduceEqDiff, Nat.reduceAdd, Nat.reduceLeDiff, Nat.reduceLT, if_true, if_false, Bool.and_true, Bool.and_false, Bool.or_true, Bool.or_false, Bool.true_or, Bool.not_true, Bool.not_false, List.isEmpty_cons, beq_self_eq_true, Bool.false_eq_true, Nat.succ_ne_self, decide_true, decide_false, u_0, u_1, h1, he, c1, q1, q2, q3, and31, one_shl]
    · simp only [h1, if_true] at c1
      simp only [codeEv, opsEv, oneEv, guardEv, opEv, St.opd, look, setT, St.put, St.new, St.read, St.write, lookL, setL, cellsAt_cons, splice, argsT, resEv, bin_ine, in_agg, in_loc, List.contains_cons, List.contains_nil, one_int, loc_agg, cells_agg, one_U, callWith, keepT, keepL, List.append_nil, List.map, List.length, List.take, List.drop, List.all, List.any, List.nil_append, List.take_succ_cons, List.drop_succ_cons, Option.map_some, Nat.reduceEqDiff, Nat.reduceAdd, Nat.reduceLeDiff, Nat.reduceLT, if_true, if_false, Bool.and_true, Bool.and_false, Bool.or_true, Bool.or_false, Bool.true_or, Bool.not_true, Bool.not_false, List.isEmpty_cons, beq_self_eq_true, Bool.false_eq_true, Nat.succ_ne_self, decide_true, decide_false, u_0, h1, he, c1, h2]
  · simp only [h1] at c1
    simp only [codeEv, opsEv, oneEv, guardEv, opEv, St.opd, look, setT, St.put, St.new, St.read, St.write, lookL, setL, cellsAt_cons, splice, argsT, resEv, bin_ine, in_agg, in_loc, List.contains_cons, List.contains_nil, one_int, loc_agg, cells_agg, one_U, callWith, keepT, keepL, List.append_nil, List.map, List.length, List.take, List.drop, List.all, List.any, List.nil_append, List.take_succ_cons, List.drop_succ_cons, Option.map_some, Nat.reduceEqDiff, Nat.reduceAdd, Nat.reduceLeDiff, Nat.reduceLT, if_true, if_false, Bool.and_true, Bool.false_and, Bool.or_true, Bool.or_false, Bool.true_or, Bool.not_false, List.isEmpty_cons, beq_self_eq_true, Bool.false_eq_true, Nat.succ_ne_self, decide_false, beq_tf, u_0, h1, c1, eq20]

theorem lgA : logOk [(.loc 2 1, 1, false), (.loc 3 0, 1, true)] = true := rfl
theorem sh_small : ∀ k : Nat, k < 32 → sh (k : Int) = (k : Int) := by decide +kernel
theorem bit_small (a : Int) (h0 : 0 ≤ a) (h1 : a ≤ 31) : bit a = 1#32 <<< a.toNat := by
  have := sh_small a.toNat (by omega)
  rw [show ((a.toNat : Nat) : Int) = a by omega] at this
  unfold bit
  rw [this]
theorem ok_line (op a b c : Int) (h : codeOk op a b c = true) (ho : op = 19 ∨ op = 20) : 0 ≤ a ∧ a ≤ 31 := by
  unfold codeOk at h
  simp only [Bool.and_eq_true] at h
  have h3 := h.2.2.1
  have k19 : kx 1 (19 : Int).toNat = 5 := by decide +kernel
  have k20 : kx 1 (20 : Int).toNat = 5 := by decide +kernel
  rcases ho with rfl | rfl
  · rw [k19] at h3; simp [fitsI] at h3; exact h3
  · rw [k20] at h3; simp [fitsI] at h3; exact h3

theorem rdo_mk (N : Nat) (hN : 6 ≤ N) (op a b c : Int) (M : Mk) (m : Mem) (hmn : m.n + 3 ≤ 2 ^ depth) : ∃ m', run A N 38 [insA op a b c, M.av] m = some ((M.doI (if codeOk op a b c then 0 else 2) op a).av, m') ∧ Ext m m' ∧ m'.n ≤ m.n + 3 := by
  obtain ⟨n, rfl⟩ : ∃ n, N = n + 2 := ⟨N - 2, by omega⟩
  rw [run_38]
  have c1 := rcheck_mk n M m
  obtain ⟨m', c2, x1, n1⟩ := rcode_ex (n + 1) (by omega) op a b c m hmn
  rw [← code_ref] at c2
  have hline := ok_line op a b c
  generalize codeOk op a b c = ok at *
  unfold insA at c2 ⊢
  simp only [av_cells] at c1 ⊢
  unfold fnEv a38 Mk.doI
  by_cases h1 : M.ok = true
  · simp only [h1, if_true] at c1
    cases ok
    · exact ⟨m', by simp only [codeEv, opsEv, oneEv, guardEv, opEv, St.opd, look_set, look_cons, St.put, St.new, St.read, St.write, lookL, setL, cellsAt_cons, splice, argsT, resEv, bin_ine, in_agg, in_loc, List.contains_cons, List.contains_nil, one_int, loc_agg, cells_agg, one_U, callWith, keepL, List.append_nil, List.map, List.length, List.take, List.drop, List.all, List.any, List.nil_append, List.take_succ_cons, List.drop_succ_cons, Option.map_some, Nat.reduceEqDiff, Nat.reduceAdd, Nat.reduceLeDiff, Nat.reduceLT, if_true, if_false, Bool.and_true, Bool.and_false, Bool.or_true, Bool.or_false, Bool.true_or, Bool.not_true, Bool.not_false, List.isEmpty_cons, beq_self_eq_true, Bool.false_eq_true, Nat.succ_ne_self, decide_true, decide_false, u_0, keepT_setT, keepT_lit, h1, c1, c2, eq20], x1, n1⟩
    · by_cases q1 : op = 19
      · subst q1
        obtain ⟨l0, l1⟩ := hline rfl (.inl rfl)
        have w := u64_small a l0 (by omega)
        have hs := bin_shl 1#32 .u64 a l0
        rw [← bit_small a l0 l1] at hs
        exact ⟨m', by simp only [codeEv, opsEv, oneEv, guardEv, opEv, St.opd, look_set, look_cons, St.put, St.new, St.read, St.write, lookL, setL, cellsAt_cons, splice, argsT, resEv, bin_or, bin_andNot, bin_ieq, bin_ine, in_int, in_agg, in_loc, List.contains_cons, List.contains_nil, one_int, cells_int, loc_agg, cells_agg, one_U, cells_U, callWith, keepL, careEv, dOneEv, dOpsEv, accOf, accEv, Option.toList_some, List.append_nil, List.map, List.length, List.take, List.drop, List.all, List.any, List.cons_append, List.nil_append, List.take_succ_cons, List.drop_succ_cons, Option.map_some, Nat.reduceEqDiff, Int.reduceEq, Nat.reduceAdd, Nat.reduceLeDiff, Nat.reduceLT, if_true, if_false, Bool.and_true, Bool.and_false, Bool.or_true, Bool.or_false, Bool.true_or, Bool.not_true, Bool.not_false, List.isEmpty_cons, beq_self_eq_true, Bool.false_eq_true, Nat.succ_ne_self, decide_true, decide_false, u_0, u_1, keepT_setT, keepT_lit, lgA, h1, c1, c2, w, hs], x1, n1⟩
      · by_cases q2 : op = 20
        · subst q2
          obtain ⟨l0, l1⟩ := hline rfl (.inr rfl)
          have w := u64_small a l0 (by omega)
          have hs := bin_shl 1#32 .u64 a l0
          rw [← bit_small a l0 l1] at hs
          exact ⟨m', by simp only [codeEv, opsEv, oneEv, guardEv, opEv, St.opd, look_set, look_cons, St.put, St.new, St.read, St.write, lookL, setL, cellsAt_cons, splice, argsT, resEv, bin_or, bin_andNot, bin_ieq, bin_ine, in_int, in_agg, in_loc, List.contains_cons, List.contains_nil, one_int, cells_int, loc_agg, cells_agg, one_U, cells_U, callWith, keepL, careEv, dOneEv, dOpsEv, accOf, accEv, Option.toList_some, List.append_nil, List.map, List.length, List.take, List.drop, List.all, List.any, List.cons_append, List.nil_append, List.take_succ_cons, List.drop_succ_cons, Option.map_some, Nat.reduceEqDiff, Int.reduceEq, Nat.reduceAdd, Nat.reduceLeDiff, Nat.reduceLT, if_true, if_false, Bool.and_true, Bool.and_false, Bool.or_true, Bool.or_false, Bool.true_or, Bool.not_true, Bool.not_false, List.isEmpty_cons, beq_self_eq_true, Bool.false_eq_true, Nat.succ_ne_self, decide_true, decide_false, u_0, u_1, keepT_setT, keepT_lit, lgA, h1, c1, c2, w, hs], x1, n1⟩
        · by_cases q3 : op = 21
          · subst q3
            exact ⟨m', by simp only [codeEv, opsEv, oneEv, guardEv, opEv, St.opd, look_set, look_cons, St.put, St.new, St.read, St.write, lookL, setL, cellsAt_cons, splice, argsT, resEv, bin_ieq, bin_ine, in_int, in_agg, in_loc, List.contains_cons, List.contains_nil, one_int, cells_int, loc_agg, cells_agg, one_U, callWith, keepL, careEv, dOneEv, dOpsEv, accOf, accEv, Option.toList_some, List.append_nil, List.map, List.length, List.take, List.drop, List.all, List.any, List.cons_append, List.nil_append, List.take_succ_cons, List.drop_succ_cons, Option.map_some, Nat.reduceEqDiff, Int.reduceEq, Nat.reduceAdd, Nat.reduceLeDiff, Nat.reduceLT, if_true, if_false, Bool.and_true, Bool.false_and, Bool.and_false, Bool.or_true, Bool.or_false, Bool.true_or, Bool.not_true, Bool.not_false, List.isEmpty_cons, beq_self_eq_true, Bool.false_eq_true, Nat.succ_ne_self, decide_true, decide_false, u_0, u_1, keepT_setT, keepT_lit, lg1, h1, c1, c2], x1, n1⟩
          · exact ⟨m', by simp only [codeEv, opsEv, oneEv, guardEv, opEv, St.opd, look_set, look_cons, St.put, St.new, St.read, St.write, lookL, setL, cellsAt_cons, splice, argsT, resEv, bin_ieq, bin_ine, in_int, in_agg, in_loc, List.contains_cons, List.contains_nil, one_int, cells_int, loc_agg, cells_agg, one_U, callWith, keepL, careEv, dOneEv, dOpsEv, accOf, accEv, Option.toList_some, List.append_nil, List.map, List.length, List.take, List.drop, List.all, List.any, List.cons_append, List.nil_append, List.take_succ_cons, List.drop_succ_cons, Option.map_some, Nat.reduceEqDiff, Nat.reduceAdd, Nat.reduceLeDiff, Nat.reduceLT, if_true, if_false, Bool.and_true, Bool.false_and, Bool.and_false, Bool.or_true, Bool.or_false, Bool.true_or, Bool.not_true, Bool.not_false, List.isEmpty_cons, beq_self_eq_true, Bool.false_eq_true, Nat.succ_ne_self, decide_true, decide_false, u_0, u_1, keepT_setT, keepT_lit, h1, c1, c2, q1, q2, q3], x1, n1⟩
  · simp only [h1] at c1
    exact ⟨m, by simp only [codeEv, opsEv, oneEv, guardEv, opEv, St.opd, look_set, look_cons, St.put, St.new, St.read, St.write, lookL, setL, cellsAt_cons, splice, argsT, resEv, bin_ine, in_agg, in_loc, List.contains_cons, List.contains_nil, one_int, loc_agg, cells_agg, one_U, callWith, keepL, List.append_nil, List.map, List.length, List.take, List.drop, List.all, List.any, List.nil_append, List.take_succ_cons, List.drop_succ_cons, Option.map_some, Nat.reduceEqDiff, Nat.reduceAdd, Nat.reduceLeDiff, Nat.reduceLT, if_true, if_false, Bool.and_true, Bool.false_and, Bool.or_true, Bool.or_false, Bool.true_or, Bool.not_false, List.isEmpty_cons, beq_self_eq_true, Bool.false_eq_true, Nat.succ_ne_self, decide_false, beq_tf, u_0, keepT_setT, keepT_lit, h1, c1, eq20], Ext.refl m, by omega⟩

end AG
