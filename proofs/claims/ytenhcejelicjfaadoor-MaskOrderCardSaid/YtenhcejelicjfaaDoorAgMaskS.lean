/- What the functions of masks and of the instruction check compute. -/
import Derived.Test.YtenhcejelicjfaaDoorAgFo
import Derived.Test.YtenhcejelicjfaaDoorAgSym
namespace AG
open Go Go.Proofs.YtenhcejelicjfaaDoor
set_option maxRecDepth 100000
set_option maxHeartbeats 4000000
def maskOk (may must : BitVec 32) (fr to : Int) : Bool := decide (must &&& ~~~may = 0#32) && (decide (0 ≤ fr) && (decide (to ≤ 15) && decide (fr ≤ to)))
def mkA (may must : BitVec 32) (fr to : Int) : AV := .agg [U may, U must, .int .i64 fr, .int .i64 to]

theorem check_spec (n : Nat) (may must : BitVec 32) (fr to : Int) (m : Mem) : run A (n + 1) 30 [mkA may must fr to] m = some (.int .i64 (if maskOk may must fr to then 0 else 2), m) := by
  rw [run_30]
  unfold fnEv a30 mkA maskOk
  by_cases h1 : must &&& ~~~may = 0#32
  · by_cases h2 : fr < 0
    · have h2' : ¬ (0 ≤ fr) := by omega
      simp only [codeEv, opsEv, oneEv, guardEv, opEv, St.opd, look, setT, St.put, St.new, St.read, lookL, setL, cellsAt_cons, argsT, resEv, bin_andNot, bin_une, bin_ilt, loc_int, cells_agg, List.length, List.take, List.drop, List.take_succ_cons, Option.map_some, Nat.reduceEqDiff, Nat.reduceAdd, Nat.reduceLeDiff, Nat.reduceLT, if_true, if_false, Bool.false_and, Bool.and_false, Bool.not_true, beq_self_eq_true, Bool.false_eq_true, Nat.succ_ne_self, decide_true, decide_false, beq_tf, u_0, h1, h2, h2']
    · have h2' : (0 ≤ fr) := by omega
      by_cases h3 : to ≤ 15
      · have h3' : ¬ (15 < to) := by omega
        by_cases h4 : fr ≤ to
        · have h4' : ¬ (to < fr) := by omega
          simp only [codeEv, opsEv, oneEv, guardEv, opEv, St.opd, look, setT, St.put, St.new, St.read, lookL, setL, cellsAt_cons, argsT, resEv, bin_andNot, bin_une, bin_ilt, bin_igt, loc_int, cells_agg, List.length, List.take, List.drop, List.take_succ_cons, Option.map_some, Nat.reduceEqDiff, Nat.reduceAdd, Nat.reduceLeDiff, Nat.reduceLT, if_true, if_false, Bool.and_true, Bool.not_true, beq_self_eq_true, Bool.false_eq_true, Nat.succ_ne_self, decide_true, decide_false, u_0, h1, h2, h2', h3, h3', h4, h4']
        · have h4' : (to < fr) := by omega
          simp only [codeEv, opsEv, oneEv, guardEv, opEv, St.opd, look, setT, St.put, St.new, St.read, lookL, setL, cellsAt_cons, argsT, resEv, bin_andNot, bin_une, bin_ilt, bin_igt, loc_int, cells_agg, List.length, List.take, List.drop, List.take_succ_cons, Option.map_some, Nat.reduceEqDiff, Nat.reduceAdd, Nat.reduceLeDiff, Nat.reduceLT, if_true, if_false, Bool.and_false, Bool.not_true, beq_self_eq_true, Bool.false_eq_true, Nat.succ_ne_self, decide_true, decide_false, u_0, h1, h2, h2', h3, h3', h4, h4']
      · have h3' : (15 < to) := by omega
        simp only [codeEv, opsEv, oneEv, guardEv, opEv, St.opd, look, setT, St.put, St.new, St.read, lookL, setL, cellsAt_cons, argsT, resEv, bin_andNot, bin_une, bin_ilt, bin_igt, loc_int, cells_agg, List.length, List.take, List.drop, List.take_succ_cons, Option.map_some, Nat.reduceEqDiff, Nat.reduceAdd, Nat.reduceLeDiff, Nat.reduceLT, if_true, if_false, Bool.false_and, Bool.and_false, Bool.not_true, beq_self_eq_true, Bool.false_eq_true, Nat.succ_ne_self, decide_true, decide_false, beq_tf, u_0, h1, h2, h2', h3, h3']
  · simp only [codeEv, opsEv, oneEv, guardEv, opEv, St.opd, look, setT, St.put, St.new, St.read, lookL, setL, cellsAt_cons, argsT, resEv, bin_andNot, bin_une, loc_int, cells_agg, List.length, List.take, List.drop, List.take_succ_cons, Option.map_some, Nat.reduceEqDiff, Nat.reduceAdd, Nat.reduceLeDiff, Nat.reduceLT, if_true, if_false, Bool.false_and, Bool.not_false, Bool.false_eq_true, Nat.succ_ne_self, decide_false, beq_tf, u_0, h1]

theorem first_spec (n : Nat) (m : Mem) : run A (n + 1) 28 [] m = some (mkA 0#32 0#32 0 0, m) := by
  rw [run_28]
  unfold fnEv a28 mkA
  simp only [codeEv, opsEv, oneEv, guardEv, opEv, St.opd, look, setT, St.put, St.new, St.read, St.write, lookL, setL, cellsAt_cons, splice, argsT, resEv, one_int, loc_agg, cells_agg, one_U, fillEv, List.map, List.length, List.take, List.drop, List.all, List.cons_append, List.nil_append, List.take_succ_cons, List.drop_succ_cons, Nat.reduceEqDiff, Nat.reduceAdd, Nat.reduceLeDiff, Nat.reduceLT, if_true, if_false, Bool.and_true, Bool.not_false, List.isEmpty_cons, Bool.false_eq_true, Nat.succ_ne_self, u_0]

theorem eq00 : ((0 : Int) = 0) = True := by simp
theorem eq20 : ((2 : Int) = 0) = False := by simp
theorem max_i (x y : Int) : maxEv (.int .i64 x) [.int .i64 y] = some (.int .i64 (max x y)) := by
  simp only [maxEv]; congr 2; omega
theorem min_i (x y : Int) : minEv (.int .i64 x) [.int .i64 y] = some (.int .i64 (min x y)) := by
  simp only [minEv]; congr 2; omega

theorem join_spec (n : Nat) (may must : BitVec 32) (fr to : Int) (may' must' : BitVec 32) (fr' to' : Int) (m : Mem) : run A (n + 2) 31 [mkA may must fr to, mkA may' must' fr' to'] m =
    some (if maskOk may must fr to && maskOk may' must' fr' to' then mkA (may ||| may') (must &&& must') (min fr fr') (max to to') else mkA 0#32 0#32 0 0, m) := by
  rw [run_31]
  have c1 := check_spec n may must fr to
  have c2 := check_spec n may' must' fr' to'
  have c3 := first_spec n
  unfold mkA at c1 c2 c3
  unfold fnEv a31 mkA
  by_cases h1 : maskOk may must fr to = true
  · by_cases h2 : maskOk may' must' fr' to' = true
    · simp only [h1, h2, if_true] at c1 c2
      simp only [codeEv, opsEv, oneEv, guardEv, opEv, St.opd, look, setT, St.put, St.new, St.read, St.write, lookL, setL, cellsAt_cons, splice, argsT, resEv, bin_and, bin_or, bin_ine, one_int, loc_int, cells_int, loc_agg, cells_agg, one_U, cells_U, fillEv, callWith, List.map, List.length, List.take, List.drop, List.all, List.any, List.cons_append, List.nil_append, List.take_succ_cons, List.drop_succ_cons, List.length_cons, Option.map_some, Nat.reduceEqDiff, Nat.reduceAdd, Nat.reduceLeDiff, Nat.reduceLT, if_true, if_false, Bool.and_true, Bool.or_false, Bool.not_true, Bool.not_false, List.isEmpty_cons, beq_self_eq_true, Bool.false_eq_true, Nat.succ_ne_self, decide_true, u_0, h1, h2, c1, c2, c3, max_i, min_i]
    · simp only [h1, h2, if_true] at c1 c2
      simp only [codeEv, opsEv, oneEv, guardEv, opEv, St.opd, look, setT, St.put, St.new, St.read, St.write, lookL, setL, cellsAt_cons, splice, argsT, resEv, bin_ine, one_int, loc_agg, cells_agg, one_U, callWith, List.map, List.length, List.take, List.drop, List.all, List.any, List.cons_append, List.nil_append, List.take_succ_cons, List.drop_succ_cons, Option.map_some, Nat.reduceEqDiff, Nat.reduceAdd, Nat.reduceLeDiff, Nat.reduceLT, if_true, if_false, Bool.and_true, Bool.and_false, Bool.or_false, Bool.not_true, Bool.not_false, List.isEmpty_cons, beq_self_eq_true, Bool.false_eq_true, Nat.succ_ne_self, decide_true, decide_false, u_0, h1, h2, c1, c2, c3, eq20]
  · simp only [h1] at c1
    simp only [codeEv, opsEv, oneEv, guardEv, opEv, St.opd, look, setT, St.put, St.new, St.read, St.write, lookL, setL, cellsAt_cons, splice, argsT, resEv, bin_ine, one_int, loc_agg, cells_agg, one_U, callWith, List.map, List.length, List.take, List.drop, List.all, List.any, List.cons_append, List.nil_append, List.take_succ_cons, List.drop_succ_cons, Option.map_some, Nat.reduceEqDiff, Nat.reduceAdd, Nat.reduceLeDiff, Nat.reduceLT, if_true, if_false, Bool.and_true, Bool.false_and, Bool.or_false, Bool.not_false, List.isEmpty_cons, Bool.false_eq_true, Nat.succ_ne_self, decide_false, beq_tf, u_0, h1, c1, c3, eq20]

/-- The least mask that has both's. -/
structure Mk where
  may : BitVec 32
  must : BitVec 32
  fr : Int
  to : Int
  deriving DecidableEq
def Mk.av (a : Mk) : AV := mkA a.may a.must a.fr a.to
def Mk.ok (a : Mk) : Bool := maskOk a.may a.must a.fr a.to
def Mk.join (a b : Mk) : Mk := if a.ok && b.ok then ⟨a.may ||| b.may, a.must &&& b.must, min a.fr b.fr, max a.to b.to⟩ else ⟨0#32, 0#32, 0, 0⟩
def Mk.within (a b : Mk) : Bool := a.ok && (b.ok && decide (a.join b = b))

theorem check_mk (n : Nat) (a : Mk) (m : Mem) : run A (n + 1) 30 [a.av] m = some (.int .i64 (if a.ok then 0 else 2), m) := check_spec n _ _ _ _ m
theorem join_mk (n : Nat) (a b : Mk) (m : Mem) : run A (n + 2) 31 [a.av, b.av] m = some ((a.join b).av, m) := by
  unfold Mk.av
  rw [join_spec]
  unfold Mk.join Mk.ok
  split <;> rfl

theorem eq_mk (a b : Mk) : eqEv (.agg [(0, 0), (1, 0), (2, 0), (3, 0)]) a.av b.av = some (decide (a = b)) := by
  obtain ⟨a1, a2, a3, a4⟩ := a
  obtain ⟨b1, b2, b3, b4⟩ := b
  simp only [eqEv, Mk.av, mkA, leavesEq, List.getElem?_cons_zero, List.getElem?_cons_succ, leaf_u, leaf_i, Mk.mk.injEq]
  by_cases h1 : a1 = b1 <;> by_cases h2 : a2 = b2 <;> by_cases h3 : a3 = b3 <;> by_cases h4 : a4 = b4 <;> simp [h1, h2, h3, h4]

theorem av_cells (a : Mk) : a.av = .agg [U a.may, U a.must, .int .i64 a.fr, .int .i64 a.to] := rfl

theorem within_mk (n : Nat) (a b : Mk) (m : Mem) : run A (n + 3) 32 [a.av, b.av] m = some (.bool (a.within b), m) := by
  rw [run_32]
  have c1 := check_mk (n + 1) a
  have c2 := check_mk (n + 1) b
  have c3 := join_mk n a b
  have e := eq_mk (a.join b) b
  simp only [av_cells] at c1 c2 c3 e ⊢
  unfold fnEv a32 Mk.within
  by_cases h1 : a.ok = true
  · by_cases h2 : b.ok = true
    · simp only [h1, h2, if_true] at c1 c2
      simp only [codeEv, opsEv, oneEv, guardEv, opEv, St.opd, look, setT, St.put, St.new, St.read, lookL, setL, cellsAt_cons, argsT, resEv, bin_ieq, loc_bool, loc_agg, cells_agg, callWith, careEv, dOneEv, dOpsEv, accOf, accEv, logOk, List.map, List.length, List.take, List.drop, List.all, List.any, List.nil_append, List.take_succ_cons, Option.map_some, Nat.reduceEqDiff, Nat.reduceAdd, Nat.reduceLeDiff, Nat.reduceLT, if_true, if_false, Bool.true_and, Bool.and_false, Bool.or_false, Bool.not_true, beq_self_eq_true, Bool.false_eq_true, Nat.succ_ne_self, decide_true, h1, h2, c1, c2, c3, e]
    · simp only [h1, h2] at c1 c2
      simp only [codeEv, opsEv, oneEv, guardEv, opEv, St.opd, look, setT, St.put, St.new, St.read, lookL, setL, cellsAt_cons, argsT, resEv, bin_ieq, loc_bool, loc_agg, cells_agg, callWith, careEv, dOneEv, dOpsEv, accOf, accEv, logOk, List.map, List.length, List.take, List.drop, List.all, List.any, List.nil_append, List.take_succ_cons, Option.map_some, Nat.reduceEqDiff, Nat.reduceAdd, Nat.reduceLeDiff, Nat.reduceLT, if_true, if_false, Bool.false_and, Bool.and_false, Bool.or_false, Bool.not_true, beq_self_eq_true, Bool.false_eq_true, Nat.succ_ne_self, decide_true, decide_false, beq_ft, h1, h2, c1, c2, eq20]
  · simp only [h1] at c1
    simp only [codeEv, opsEv, oneEv, guardEv, opEv, St.opd, look, setT, St.put, St.new, St.read, lookL, setL, cellsAt_cons, argsT, resEv, bin_ieq, loc_bool, loc_agg, cells_agg, callWith, careEv, dOneEv, dOpsEv, accOf, accEv, logOk, List.map, List.length, List.take, List.drop, List.all, List.any, List.nil_append, List.take_succ_cons, Option.map_some, Nat.reduceEqDiff, Nat.reduceAdd, Nat.reduceLeDiff, Nat.reduceLT, if_true, if_false, Bool.false_and, Bool.and_false, Bool.or_false, Bool.not_true, Bool.false_eq_true, Nat.succ_ne_self, decide_false, beq_ft, h1, c1, eq20]

/-- The listed tables. -/
def kinds : List AV := [.str ⟨#[]⟩, .int .i64 0, .int .i64 0, .int .i64 0, .int .i64 0, .int .i64 0, .str ⟨#[104, 97, 108, 116]⟩, .int .i64 0, .int .i64 0, .int .i64 0, .int .i64 0, .int .i64 0, .str ⟨#[112, 117, 115, 104]⟩, .int .i64 2, .int .i64 0, .int .i64 0, .int .i64 0, .int .i64 1, .str ⟨#[112, 111, 112]⟩, .int .i64 0, .int .i64 0, .int .i64 0, .int .i64 1, .int .i64 0, .str ⟨#[108, 100]⟩, .int .i64 1, .int .i64 0, .int .i64 0, .int .i64 0, .int .i64 1, .str ⟨#[115, 116]⟩, .int .i64 1, .int .i64 3, .int .i64 0, .int .i64 1, .int .i64 0, .str ⟨#[108, 100, 120]⟩, .int .i64 1, .int .i64 4, .int .i64 0, .int .i64 1, .int .i64 1, .str ⟨#[115, 116, 120]⟩, .int .i64 1, .int .i64 4, .int .i64 3, .int .i64 2, .int .i64 0, .str ⟨#[108, 100, 108]⟩, .int .i64 1, .int .i64 0, .int .i64 0, .int .i64 0, .int .i64 1, .str ⟨#[115, 116, 108]⟩, .int .i64 1, .int .i64 3, .int .i64 0, .int .i64 1, .int .i64 0, .str ⟨#[105, 110]⟩, .int .i64 1, .int .i64 0, .int .i64 0, .int .i64 0, .int .i64 1, .str ⟨#[111, 117, 116]⟩, .int .i64 1, .int .i64 0, .int .i64 0, .int .i64 1, .int .i64 0, .str ⟨#[98, 105, 110]⟩, .int .i64 7, .int .i64 0, .int .i64 0, .int .i64 2, .int .i64 1, .str ⟨#[117, 110]⟩, .int .i64 8, .int .i64 0, .int .i64 0, .int .i64 1, .int .i64 1, .str ⟨#[99, 117, 116]⟩, .int .i64 3, .int .i64 0, .int .i64 0, .int .i64 1, .int .i64 1, .str ⟨#[106, 109, 112]⟩, .int .i64 1, .int .i64 0, .int .i64 0, .int .i64 0, .int .i64 0, .str ⟨#[106, 122]⟩, .int .i64 1, .int .i64 0, .int .i64 0, .int .i64 1, .int .i64 0, .str ⟨#[99, 97, 108, 108]⟩, .int .i64 1, .int .i64 0, .int .i64 0, .int .i64 0, .int .i64 1, .str ⟨#[114, 101, 116]⟩, .int .i64 0, .int .i64 0, .int .i64 0, .int .i64 1, .int .i64 0, .str ⟨#[101, 110]⟩, .int .i64 5, .int .i64 0, .int .i64 0, .int .i64 0, .int .i64 0, .str ⟨#[100, 105, 115]⟩, .int .i64 5, .int .i64 0, .int .i64 0, .int .i64 0, .int .i64 0, .str ⟨#[108, 118, 108]⟩, .int .i64 6, .int .i64 0, .int .i64 0, .int .i64 0, .int .i64 0, .str ⟨#[112, 116]⟩, .int .i64 0, .int .i64 0, .int .i64 0, .int .i64 0, .int .i64 0, .str ⟨#[98, 101, 103]⟩, .int .i64 1, .int .i64 0, .int .i64 0, .int .i64 0, .int .i64 0, .str ⟨#[101, 110, 100]⟩, .int .i64 1, .int .i64 0, .int .i64 0, .int .i64 0, .int .i64 0]
def signs : List AV := [.str ⟨#[]⟩, .str ⟨#[43]⟩, .str ⟨#[45]⟩, .str ⟨#[42]⟩, .str ⟨#[47]⟩, .str ⟨#[37]⟩, .str ⟨#[115, 47]⟩, .str ⟨#[115, 37]⟩, .str ⟨#[38]⟩, .str ⟨#[124]⟩, .str ⟨#[94]⟩, .str ⟨#[60, 60]⟩, .str ⟨#[62, 62]⟩, .str ⟨#[115, 62, 62]⟩, .str ⟨#[61, 61]⟩, .str ⟨#[33, 61]⟩, .str ⟨#[60]⟩, .str ⟨#[60, 61]⟩, .str ⟨#[115, 60]⟩, .str ⟨#[115, 60, 61]⟩]

/-- The tables lie as they are laid. -/
structure Tab (m : Mem) : Prop where
  k : m.get 1 = some (.cells [.slice 3 0 25 (some 25) 6] false)
  s : m.get 2 = some (.cells signs false)
  t : m.get 3 = some (.cells kinds false)

theorem right_spec (n : Nat) (x : Int) (m : Mem) : run A (n + 1) 62 [.int .i64 x] m = some (.bool (decide (1 ≤ x) && decide (x ≤ 19)), m) := by
  rw [run_62]
  unfold fnEv a62
  by_cases h1 : 1 ≤ x
  · by_cases h2 : x ≤ 19
    · simp only [codeEv, opsEv, oneEv, guardEv, opEv, St.opd, look, setT, St.put, argsT, resEv, bin_ile, bin_ige, loc_bool, List.length, Option.map_some, Nat.reduceEqDiff, Nat.reduceAdd, Nat.reduceLT, if_true, if_false, Bool.and_true, beq_self_eq_true, Bool.false_eq_true, Nat.succ_ne_self, decide_true, h1, h2]
    · simp only [codeEv, opsEv, oneEv, guardEv, opEv, St.opd, look, setT, St.put, argsT, resEv, bin_ile, bin_ige, loc_bool, List.length, Option.map_some, Nat.reduceEqDiff, Nat.reduceAdd, Nat.reduceLT, if_true, if_false, Bool.and_false, beq_self_eq_true, Bool.false_eq_true, Nat.succ_ne_self, decide_true, decide_false, h1, h2]
  · simp only [codeEv, opsEv, oneEv, guardEv, opEv, St.opd, look, setT, St.put, argsT, resEv, bin_ige, loc_bool, List.length, Option.map_some, Nat.reduceEqDiff, Nat.reduceAdd, Nat.reduceLT, if_true, if_false, Bool.false_and, Bool.false_eq_true, Nat.succ_ne_self, decide_false, beq_ft, h1]

theorem sign_spec (n : Nat) (x : Int) (m : Mem) (hT : Tab m) : ∃ s, run A (n + 2) 58 [.int .i64 x] m = some (.str s, m) := by
  rw [run_58]
  have c := right_spec n x
  unfold fnEv a58
  by_cases h : 1 ≤ x ∧ x ≤ 19
  · simp only [h.1, h.2, decide_true, Bool.and_true] at c
    obtain ⟨s, hs⟩ : ∃ s, signs[0 + x.toNat * 1]? = some (.str s) := by
      have : ∀ j, j < 20 → ∃ s, signs[j]? = some (.str s) := by
        intro j hj
        have hall : signs.all (fun v => match v with | .str _ => true | _ => false) = true := by decide +kernel
        have hl : signs.length = 20 := by decide +kernel
        have hv := List.all_eq_true.1 hall signs[j] (List.getElem_mem _)
        rw [List.getElem?_eq_getElem (by omega)]
        split at hv
        · rename_i s hs; exact ⟨s, congrArg some hs⟩
        · cases hv
      exact this _ (by omega)
    have hb : 0 ≤ x ∧ x < ((20 : Nat) : Int) := by omega
    refine ⟨s, ?_⟩
    simp only [codeEv, opsEv, oneEv, guardEv, opEv, St.opd, look, setT, St.put, St.read, argsT, resEv, loc_int, loc_str, unEv, callWith, List.map, List.length, List.any, Option.map_some, Nat.reduceEqDiff, Nat.reduceAdd, Nat.reduceLT, if_true, if_false, Bool.or_false, Bool.not_true, Bool.false_eq_true, Nat.succ_ne_self, c, hb, hT.s, cells_one hs, and_self]
  · have c' : (decide (1 ≤ x) && decide (x ≤ 19)) = false := by
      simp only [Bool.and_eq_false_iff, decide_eq_false_iff_not]
      omega
    rw [c'] at c
    exact ⟨_, by simp only [codeEv, opsEv, oneEv, guardEv, opEv, St.opd, look, setT, St.put, argsT, resEv, loc_int, loc_str, unEv, callWith, List.map, List.length, List.any, Option.map_some, Nat.reduceEqDiff, Nat.reduceAdd, Nat.reduceLT, if_true, if_false, Bool.or_false, Bool.not_false, Bool.false_eq_true, Nat.succ_ne_self, c]; rfl⟩

theorem str_ne (x y : ByteArray) : binEv .neq (.str x) (.str y) = some (.bool (!(x.toList == y.toList))) := rfl

theorem name_spec (n : Nat) (x : Int) (m : Mem) : ∃ s, run A (n + 1) 59 [.int .i64 x] m = some (.str s, m) := by
  rw [run_59]
  unfold fnEv a59
  by_cases h1 : x = 1
  · exact ⟨_, by simp only [codeEv, opsEv, oneEv, guardEv, opEv, St.opd, look, setT, St.put, argsT, resEv, bin_ieq, loc_str, List.length, Option.map_some, Nat.reduceEqDiff, Int.reduceEq, Nat.reduceAdd, Nat.reduceLT, if_true, if_false, Bool.false_eq_true, Nat.succ_ne_self, decide_true, decide_false, h1]; rfl⟩
  · by_cases h2 : x = 2
    · exact ⟨_, by simp only [codeEv, opsEv, oneEv, guardEv, opEv, St.opd, look, setT, St.put, argsT, resEv, bin_ieq, loc_str, List.length, Option.map_some, Nat.reduceEqDiff, Int.reduceEq, Nat.reduceAdd, Nat.reduceLT, if_true, if_false, Bool.false_eq_true, Nat.succ_ne_self, decide_true, decide_false, h2]; rfl⟩
    · by_cases h3 : x = 3
      · exact ⟨_, by simp only [codeEv, opsEv, oneEv, guardEv, opEv, St.opd, look, setT, St.put, argsT, resEv, bin_ieq, loc_str, List.length, Option.map_some, Nat.reduceEqDiff, Int.reduceEq, Nat.reduceAdd, Nat.reduceLT, if_true, if_false, Bool.false_eq_true, Nat.succ_ne_self, decide_true, decide_false, h3]; rfl⟩
      · exact ⟨_, by simp only [codeEv, opsEv, oneEv, guardEv, opEv, St.opd, look, setT, St.put, argsT, resEv, bin_ieq, loc_str, List.length, Option.map_some, Nat.reduceEqDiff, Nat.reduceAdd, Nat.reduceLT, if_true, if_false, Bool.false_eq_true, Nat.succ_ne_self, decide_false, h1, h2, h3]; rfl⟩

theorem fits_spec (n : Nat) (w x : Int) (m : Mem) (hT : Tab m) : ∃ b, run A (n + 3) 55 [.int .i64 w, .int .i64 x] m = some (.bool b, m) ∧ (w = 6 → b = true → 0 ≤ x ∧ x ≤ 15) := by
  rw [run_55]
  obtain ⟨s1, c1⟩ := sign_spec n x m hT
  obtain ⟨s2, c2⟩ := name_spec (n + 1) x m
  unfold fnEv a55
  by_cases h0 : w = 0
  · exact ⟨_, by simp only [codeEv, opsEv, oneEv, guardEv, opEv, St.opd, look, setT, St.put, argsT, resEv, bin_ige, bin_ieq, loc_int, loc_bool, callWith, List.map, List.length, List.any, Option.map_some, Nat.reduceEqDiff, Int.reduceEq, Nat.reduceAdd, Nat.reduceLT, if_true, if_false, Bool.or_false, Bool.false_eq_true, Nat.succ_ne_self, decide_true, decide_false, h0]; rfl, by omega⟩
  by_cases h1 : w = 1
  · by_cases q1 : 0 ≤ x
    · by_cases q2 : x ≤ 1048576
      · exact ⟨_, by simp only [codeEv, opsEv, oneEv, guardEv, opEv, St.opd, look, setT, St.put, argsT, resEv, bin_ile, bin_ige, bin_ieq, loc_int, loc_bool, callWith, List.map, List.length, List.any, Option.map_some, Nat.reduceEqDiff, Int.reduceEq, Nat.reduceAdd, Nat.reduceLT, if_true, if_false, Bool.or_false, beq_self_eq_true, Bool.false_eq_true, Nat.succ_ne_self, decide_true, decide_false, h1, q1, q2]; rfl, by omega⟩
      · exact ⟨_, by simp only [codeEv, opsEv, oneEv, guardEv, opEv, St.opd, look, setT, St.put, argsT, resEv, bin_ile, bin_ige, bin_ieq, loc_int, loc_bool, callWith, List.map, List.length, List.any, Option.map_some, Nat.reduceEqDiff, Int.reduceEq, Nat.reduceAdd, Nat.reduceLT, if_true, if_false, Bool.or_false, beq_self_eq_true, Bool.false_eq_true, Nat.succ_ne_self, decide_true, decide_false, h1, q1, q2]; rfl, by omega⟩
    · exact ⟨_, by simp only [codeEv, opsEv, oneEv, guardEv, opEv, St.opd, look, setT, St.put, argsT, resEv, bin_ige, bin_ieq, loc_int, loc_bool, callWith, List.map, List.length, List.any, Option.map_some, Nat.reduceEqDiff, Int.reduceEq, Nat.reduceAdd, Nat.reduceLT, if_true, if_false, Bool.or_false, Bool.false_eq_true, Nat.succ_ne_self, decide_true, decide_false, beq_ft, h1, q1]; rfl, by omega⟩
  by_cases h2 : w = 2
  · by_cases q1 : 0 ≤ x
    · by_cases q2 : x ≤ 4294967295
      · exact ⟨_, by simp only [codeEv, opsEv, oneEv, guardEv, opEv, St.opd, look, setT, St.put, argsT, resEv, bin_ile, bin_ige, bin_ieq, loc_int, loc_bool, callWith, List.map, List.length, List.any, Option.map_some, Nat.reduceEqDiff, Int.reduceEq, Nat.reduceAdd, Nat.reduceLT, if_true, if_false, Bool.or_false, beq_self_eq_true, Bool.false_eq_true, Nat.succ_ne_self, decide_true, decide_false, h2, q1, q2]; rfl, by omega⟩
      · exact ⟨_, by simp only [codeEv, opsEv, oneEv, guardEv, opEv, St.opd, look, setT, St.put, argsT, resEv, bin_ile, bin_ige, bin_ieq, loc_int, loc_bool, callWith, List.map, List.length, List.any, Option.map_some, Nat.reduceEqDiff, Int.reduceEq, Nat.reduceAdd, Nat.reduceLT, if_true, if_false, Bool.or_false, beq_self_eq_true, Bool.false_eq_true, Nat.succ_ne_self, decide_true, decide_false, h2, q1, q2]; rfl, by omega⟩
    · exact ⟨_, by simp only [codeEv, opsEv, oneEv, guardEv, opEv, St.opd, look, setT, St.put, argsT, resEv, bin_ige, bin_ieq, loc_int, loc_bool, callWith, List.map, List.length, List.any, Option.map_some, Nat.reduceEqDiff, Int.reduceEq, Nat.reduceAdd, Nat.reduceLT, if_true, if_false, Bool.or_false, Bool.false_eq_true, Nat.succ_ne_self, decide_true, decide_false, beq_ft, h2, q1]; rfl, by omega⟩
  by_cases h3 : w = 3
  · by_cases q1 : x = 8
    · exact ⟨_, by simp only [codeEv, opsEv, oneEv, guardEv, opEv, St.opd, look, setT, St.put, argsT, resEv, bin_ile, bin_ige, bin_ieq, loc_int, loc_bool, callWith, List.map, List.length, List.any, Option.map_some, Nat.reduceEqDiff, Int.reduceEq, Int.reduceLE, Nat.reduceAdd, Nat.reduceLT, if_true, if_false, Bool.or_false, beq_self_eq_true, Bool.false_eq_true, Nat.succ_ne_self, decide_true, decide_false, beq_tf, h3, q1]; rfl, by omega⟩
    · by_cases q2 : x = 16
      · exact ⟨_, by simp only [codeEv, opsEv, oneEv, guardEv, opEv, St.opd, look, setT, St.put, argsT, resEv, bin_ile, bin_ige, bin_ieq, loc_int, loc_bool, callWith, List.map, List.length, List.any, Option.map_some, Nat.reduceEqDiff, Int.reduceEq, Int.reduceLE, Nat.reduceAdd, Nat.reduceLT, if_true, if_false, Bool.or_false, beq_self_eq_true, Bool.false_eq_true, Nat.succ_ne_self, decide_true, decide_false, beq_tf, h3, q2]; rfl, by omega⟩
      · exact ⟨_, by simp only [codeEv, opsEv, oneEv, guardEv, opEv, St.opd, look, setT, St.put, argsT, resEv, bin_ige, bin_ieq, loc_int, loc_bool, callWith, List.map, List.length, List.any, Option.map_some, Nat.reduceEqDiff, Int.reduceEq, Nat.reduceAdd, Nat.reduceLT, if_true, if_false, Bool.or_false, beq_self_eq_true, Bool.false_eq_true, Nat.succ_ne_self, decide_true, decide_false, h3, q1, q2]; rfl, by omega⟩
  by_cases h4 : w = 4
  · by_cases q1 : 1 ≤ x
    · by_cases q2 : x ≤ 1048576
      · exact ⟨_, by simp only [codeEv, opsEv, oneEv, guardEv, opEv, St.opd, look, setT, St.put, argsT, resEv, bin_ile, bin_ige, bin_ieq, loc_int, loc_bool, callWith, List.map, List.length, List.any, Option.map_some, Nat.reduceEqDiff, Int.reduceEq, Nat.reduceAdd, Nat.reduceLT, if_true, if_false, Bool.or_false, beq_self_eq_true, Bool.false_eq_true, Nat.succ_ne_self, decide_true, decide_false, h4, q1, q2]; rfl, by omega⟩
      · exact ⟨_, by simp only [codeEv, opsEv, oneEv, guardEv, opEv, St.opd, look, setT, St.put, argsT, resEv, bin_ile, bin_ige, bin_ieq, loc_int, loc_bool, callWith, List.map, List.length, List.any, Option.map_some, Nat.reduceEqDiff, Int.reduceEq, Nat.reduceAdd, Nat.reduceLT, if_true, if_false, Bool.or_false, beq_self_eq_true, Bool.false_eq_true, Nat.succ_ne_self, decide_true, decide_false, h4, q1, q2]; rfl, by omega⟩
    · exact ⟨_, by simp only [codeEv, opsEv, oneEv, guardEv, opEv, St.opd, look, setT, St.put, argsT, resEv, bin_ige, bin_ieq, loc_int, loc_bool, callWith, List.map, List.length, List.any, Option.map_some, Nat.reduceEqDiff, Int.reduceEq, Nat.reduceAdd, Nat.reduceLT, if_true, if_false, Bool.or_false, Bool.false_eq_true, Nat.succ_ne_self, decide_true, decide_false, beq_ft, h4, q1]; rfl, by omega⟩
  by_cases h5 : w = 5
  · by_cases q1 : 0 ≤ x
    · by_cases q2 : x ≤ 31
      · exact ⟨_, by simp only [codeEv, opsEv, oneEv, guardEv, opEv, St.opd, look, setT, St.put, argsT, resEv, bin_ile, bin_ige, bin_ieq, loc_int, loc_bool, callWith, List.map, List.length, List.any, Option.map_some, Nat.reduceEqDiff, Int.reduceEq, Nat.reduceAdd, Nat.reduceLT, if_true, if_false, Bool.or_false, beq_self_eq_true, Bool.false_eq_true, Nat.succ_ne_self, decide_true, decide_false, h5, q1, q2]; rfl, by omega⟩
      · exact ⟨_, by simp only [codeEv, opsEv, oneEv, guardEv, opEv, St.opd, look, setT, St.put, argsT, resEv, bin_ile, bin_ige, bin_ieq, loc_int, loc_bool, callWith, List.map, List.length, List.any, Option.map_some, Nat.reduceEqDiff, Int.reduceEq, Nat.reduceAdd, Nat.reduceLT, if_true, if_false, Bool.or_false, beq_self_eq_true, Bool.false_eq_true, Nat.succ_ne_self, decide_true, decide_false, h5, q1, q2]; rfl, by omega⟩
    · exact ⟨_, by simp only [codeEv, opsEv, oneEv, guardEv, opEv, St.opd, look, setT, St.put, argsT, resEv, bin_ige, bin_ieq, loc_int, loc_bool, callWith, List.map, List.length, List.any, Option.map_some, Nat.reduceEqDiff, Int.reduceEq, Nat.reduceAdd, Nat.reduceLT, if_true, if_false, Bool.or_false, Bool.false_eq_true, Nat.succ_ne_self, decide_true, decide_false, beq_ft, h5, q1]; rfl, by omega⟩
  by_cases h6 : w = 6
  · by_cases q1 : 0 ≤ x
    · by_cases q2 : x ≤ 15
      · exact ⟨true, by simp only [codeEv, opsEv, oneEv, guardEv, opEv, St.opd, look, setT, St.put, argsT, resEv, bin_ile, bin_ige, bin_ieq, loc_int, loc_bool, callWith, List.map, List.length, List.any, Option.map_some, Nat.reduceEqDiff, Int.reduceEq, Nat.reduceAdd, Nat.reduceLT, if_true, if_false, Bool.or_false, beq_self_eq_true, Bool.false_eq_true, Nat.succ_ne_self, decide_true, decide_false, h6, q1, q2], fun _ _ => ⟨q1, q2⟩⟩
      · exact ⟨false, by simp only [codeEv, opsEv, oneEv, guardEv, opEv, St.opd, look, setT, St.put, argsT, resEv, bin_ile, bin_ige, bin_ieq, loc_int, loc_bool, callWith, List.map, List.length, List.any, Option.map_some, Nat.reduceEqDiff, Int.reduceEq, Nat.reduceAdd, Nat.reduceLT, if_true, if_false, Bool.or_false, beq_self_eq_true, Bool.false_eq_true, Nat.succ_ne_self, decide_true, decide_false, h6, q1, q2], fun _ h => by cases h⟩
    · exact ⟨false, by simp only [codeEv, opsEv, oneEv, guardEv, opEv, St.opd, look, setT, St.put, argsT, resEv, bin_ige, bin_ieq, loc_int, loc_bool, callWith, List.map, List.length, List.any, Option.map_some, Nat.reduceEqDiff, Int.reduceEq, Nat.reduceAdd, Nat.reduceLT, if_true, if_false, Bool.or_false, Bool.false_eq_true, Nat.succ_ne_self, decide_true, decide_false, beq_ft, h6, q1], fun _ h => by cases h⟩
  by_cases h7 : w = 7
  · exact ⟨_, by simp only [codeEv, opsEv, oneEv, guardEv, opEv, St.opd, look, setT, St.put, argsT, resEv, bin_ige, bin_ieq, loc_int, loc_bool, callWith, List.map, List.length, List.any, Option.map_some, Nat.reduceEqDiff, Int.reduceEq, Nat.reduceAdd, Nat.reduceLT, if_true, if_false, Bool.or_false, Bool.false_eq_true, Nat.succ_ne_self, decide_true, decide_false, h7, c1, str_ne]; rfl, by omega⟩
  · exact ⟨_, by simp only [codeEv, opsEv, oneEv, guardEv, opEv, St.opd, look, setT, St.put, argsT, resEv, bin_ige, bin_ieq, loc_int, loc_bool, callWith, List.map, List.length, List.any, Option.map_some, Nat.reduceEqDiff, Nat.reduceAdd, Nat.reduceLT, if_true, if_false, Bool.or_false, Bool.false_eq_true, Nat.succ_ne_self, decide_false, h0, h1, h2, h3, h4, h5, h6, h7, c2, str_ne]; rfl, by omega⟩

def insA (op a b c : Int) : AV := .agg [.int .i64 op, .int .i64 a, .int .i64 b, .int .i64 c]

theorem kind_at (op : Int) (h1 : 1 ≤ op) (h2 : op < 25) : ∃ s x y z p q, cellsAt kinds (0 + op.toNat * 6) 6 = some [.str s, .int .i64 x, .int .i64 y, .int .i64 z, .int .i64 p, .int .i64 q] ∧ (op = 21 → x = 6) := by
  have key : ∀ j, j < 25 → ∃ s x y z p q, cellsAt kinds (0 + j * 6) 6 = some [.str s, .int .i64 x, .int .i64 y, .int .i64 z, .int .i64 p, .int .i64 q] ∧ (j = 21 → x = 6) := by
    have hall : (List.range 25).all (fun j => match cellsAt kinds (0 + j * 6) 6 with
      | some [.str _, .int .i64 x, .int .i64 _, .int .i64 _, .int .i64 _, .int .i64 _] => j != 21 || x == 6
      | _ => false) = true := by decide +kernel
    intro j hj
    have hv := List.all_eq_true.1 hall j (List.mem_range.2 hj)
    split at hv
    · rename_i s x y z p q hs
      refine ⟨s, x, y, z, p, q, hs, fun e => ?_⟩
      subst e
      simpa using hv
    · cases hv
  obtain ⟨s, x, y, z, p, q, h3, h4⟩ := key op.toNat (by omega)
  exact ⟨s, x, y, z, p, q, h3, fun e => h4 (by omega)⟩

theorem codeCheck_spec (n : Nat) (op a b c : Int) (m : Mem) (hT : Tab m) : ∃ e : Int, run A (n + 4) 50 [insA op a b c] m = some (.int .i64 e, m) ∧ (e = 0 → op = 21 → 0 ≤ a ∧ a ≤ 15) := by
  rw [run_50]
  unfold fnEv a50 insA
  by_cases h1 : op < 1
  · exact ⟨2, by simp only [codeEv, opsEv, oneEv, guardEv, opEv, St.opd, look, setT, St.put, St.new, St.read, lookL, setL, cellsAt_cons, argsT, resEv, bin_ilt, loc_int, cells_agg, List.length, List.take, List.drop, List.take_succ_cons, Option.map_some, Nat.reduceEqDiff, Nat.reduceAdd, Nat.reduceLeDiff, Nat.reduceLT, if_true, if_false, Bool.false_eq_true, Nat.succ_ne_self, decide_true, beq_tf, h1], fun h => by cases h⟩
  · by_cases h2 : 25 ≤ op
    · have h2' : ((25 : Nat) : Int) ≤ op := h2
      exact ⟨2, by simp only [codeEv, opsEv, oneEv, guardEv, opEv, St.opd, look, setT, St.put, St.new, St.read, lookL, setL, cellsAt_cons, argsT, resEv, bin_ilt, bin_ige, loc_int, cells_agg, List.length, List.take, List.drop, List.take_succ_cons, Option.map_some, Nat.reduceEqDiff, Nat.reduceAdd, Nat.reduceLeDiff, Nat.reduceLT, if_true, if_false, beq_self_eq_true, Bool.false_eq_true, Nat.succ_ne_self, decide_true, decide_false, h1, h2', hT.k], fun h => by cases h⟩
    · have h2' : ¬ ((25 : Nat) : Int) ≤ op := h2
      have hb : 0 ≤ op ∧ op < ((25 : Nat) : Int) := by omega
      obtain ⟨s, x, y, z, p, q, hk, hx⟩ := kind_at op (by omega) (by omega)
      obtain ⟨b1, f1, g1⟩ := fits_spec n x a m hT
      obtain ⟨b2, f2, g2⟩ := fits_spec n y b m hT
      obtain ⟨b3, f3, g3⟩ := fits_spec n z c m hT
      cases b1
      · exact ⟨2, by simp only [codeEv, opsEv, oneEv, guardEv, opEv, St.opd, look, setT, St.put, St.new, St.read, St.write, lookL, setL, cellsAt_cons, splice, argsT, resEv, bin_ilt, bin_ige, one_int, loc_int, one_str, cells_agg, unEv, callWith, List.map, List.length, List.take, List.drop, List.all, List.any, List.cons_append, List.nil_append, List.take_succ_cons, List.drop_succ_cons, Option.map_some, Nat.reduceEqDiff, Nat.reduceAdd, Nat.reduceLeDiff, Nat.reduceLT, if_true, if_false, Bool.and_true, Bool.or_false, Bool.not_false, List.isEmpty_cons, beq_self_eq_true, Bool.false_eq_true, Nat.succ_ne_self, decide_false, beq_tf, h1, h2', hb, and_self, hT.k, hT.t, hk, f1], fun h => by cases h⟩
      · cases b2
        · exact ⟨2, by simp only [codeEv, opsEv, oneEv, guardEv, opEv, St.opd, look, setT, St.put, St.new, St.read, St.write, lookL, setL, cellsAt_cons, splice, argsT, resEv, bin_ilt, bin_ige, one_int, loc_int, one_str, cells_agg, unEv, callWith, List.map, List.length, List.take, List.drop, List.all, List.any, List.cons_append, List.nil_append, List.take_succ_cons, List.drop_succ_cons, Option.map_some, Nat.reduceEqDiff, Nat.reduceAdd, Nat.reduceLeDiff, Nat.reduceLT, if_true, if_false, Bool.and_true, Bool.or_false, Bool.not_true, Bool.not_false, List.isEmpty_cons, beq_self_eq_true, Bool.false_eq_true, Nat.succ_ne_self, decide_false, beq_tf, h1, h2', hb, and_self, hT.k, hT.t, hk, f1, f2], fun h => by cases h⟩
        · cases b3
          · exact ⟨2, by simp only [codeEv, opsEv, oneEv, guardEv, opEv, St.opd, look, setT, St.put, St.new, St.read, St.write, lookL, setL, cellsAt_cons, splice, argsT, resEv, bin_ilt, bin_ige, one_int, loc_int, one_str, cells_agg, unEv, callWith, List.map, List.length, List.take, List.drop, List.all, List.any, List.cons_append, List.nil_append, List.take_succ_cons, List.drop_succ_cons, Option.map_some, Nat.reduceEqDiff, Nat.reduceAdd, Nat.reduceLeDiff, Nat.reduceLT, if_true, if_false, Bool.and_true, Bool.or_false, Bool.not_true, Bool.not_false, List.isEmpty_cons, beq_self_eq_true, Bool.false_eq_true, Nat.succ_ne_self, decide_false, h1, h2', hb, and_self, hT.k, hT.t, hk, f1, f2, f3], fun h => by cases h⟩
          · exact ⟨0, by simp only [codeEv, opsEv, oneEv, guardEv, opEv, St.opd, look, setT, St.put, St.new, St.read, St.write, lookL, setL, cellsAt_cons, splice, argsT, resEv, bin_ilt, bin_ige, one_int, loc_int, one_str, cells_agg, unEv, callWith, List.map, List.length, List.take, List.drop, List.all, List.any, List.cons_append, List.nil_append, List.take_succ_cons, List.drop_succ_cons, Option.map_some, Nat.reduceEqDiff, Nat.reduceAdd, Nat.reduceLeDiff, Nat.reduceLT, if_true, if_false, Bool.and_true, Bool.or_false, Bool.not_true, Bool.not_false, List.isEmpty_cons, beq_self_eq_true, Bool.false_eq_true, Nat.succ_ne_self, decide_false, h1, h2', hb, and_self, hT.k, hT.t, hk, f1, f2, f3], fun _ e => g1 (hx e) rfl⟩


/-- The line of an instruction. -/
def sh (a : Int) : Int := IntKind.i64.wrap ((BitVec.ofInt 64 a &&& BitVec.ofInt 64 31).toNat : Int)
theorem and31 (a : Int) : binEv .and (.int .i64 a) (.int .i64 31) = some (.int .i64 (sh a)) := rfl
theorem sh_nonneg (a : Int) : 0 ≤ sh a := by
  unfold sh
  have h : (BitVec.ofInt 64 a &&& BitVec.ofInt 64 31).toNat ≤ 31 := by
    rw [BitVec.toNat_and]
    exact Nat.and_le_right
  generalize (BitVec.ofInt 64 a &&& BitVec.ofInt 64 31).toNat = k at h
  simp only [IntKind.wrap, IntKind.bits]
  simp [IntKind.signed]
  omega

def bit (a : Int) : BitVec 32 := 1#32 <<< (sh a).toNat
theorem one_shl (a : Int) : binEv .shl (U 1#32) (.int .i64 (sh a)) = some (U (bit a)) := bin_shl _ _ _ (sh_nonneg a)

/-- The mask behind an instruction; e: what its check tells. -/
def Mk.doI (e op a : Int) (M : Mk) : Mk :=
  if M.ok && decide (e = 0) then
    if op = 19 then ⟨M.may ||| bit a, M.must ||| bit a, M.fr, M.to⟩
    else if op = 20 then ⟨M.may &&& ~~~ bit a, M.must &&& ~~~ bit a, M.fr, M.to⟩
    else if op = 21 then ⟨M.may, M.must, a, a⟩
    else M
  else M

theorem lg1 : logOk [(.loc 2 1, 1, false), (.loc 3 2, 1, true)] = true := rfl
theorem lg0 : logOk [] = true := rfl

theorem do_mk (n : Nat) (op a b c e : Int) (M : Mk) (m : Mem) (he : run A (n + 4) 50 [insA op a b c] m = some (.int .i64 e, m)) : run A (n + 5) 27 [insA op a b c, M.av] m = some ((M.doI e op a).av, m) := by
  rw [run_27]
  have c1 := check_mk (n + 3) M m
  unfold insA at he ⊢
  simp only [av_cells] at c1 ⊢
  unfold fnEv a27 Mk.doI
  by_cases h1 : M.ok = true
  · by_cases h2 : e = 0
    · subst h2
      simp only [h1, if_true] at c1
      by_cases q1 : op = 19
      · subst q1
        simp only [codeEv, opsEv, oneEv, guardEv, opEv, St.opd, look, setT, St.put, St.new, St.read, St.write, lookL, setL, cellsAt_cons, splice, argsT, resEv, bin_or, bin_andNot, bin_ieq, bin_ine, one_int, cells_int, loc_agg, cells_agg, one_U, cells_U, callWith, careEv, dOneEv, dOpsEv, accOf, accEv, Option.toList_some, List.append_nil, List.map, List.length, List.take, List.drop, List.all, List.any, List.cons_append, List.nil_append, List.take_succ_cons, List.drop_succ_cons, Option.map_some, Nat.reduceEqDiff, Int.reduceEq, Nat.reduceAdd, Nat.reduceLeDiff, Nat.reduceLT, if_true, if_false, Bool.and_true, Bool.and_false, Bool.or_false, Bool.not_true, Bool.not_false, List.isEmpty_cons, beq_self_eq_true, Bool.false_eq_true, Nat.succ_ne_self, decide_true, decide_false, u_0, u_1, h1, he, c1, and31, one_shl]
      · by_cases q2 : op = 20
        · subst q2
          simp only [codeEv, opsEv, oneEv, guardEv, opEv, St.opd, look, setT, St.put, St.new, St.read, St.write, lookL, setL, cellsAt_cons, splice, argsT, resEv, bin_or, bin_andNot, bin_ieq, bin_ine, one_int, cells_int, loc_agg, cells_agg, one_U, cells_U, callWith, careEv, dOneEv, dOpsEv, accOf, accEv, Option.toList_some, List.append_nil, List.map, List.length, List.take, List.drop, List.all, List.any, List.cons_append, List.nil_append, List.take_succ_cons, List.drop_succ_cons, Option.map_some, Nat.reduceEqDiff, Int.reduceEq, Nat.reduceAdd, Nat.reduceLeDiff, Nat.reduceLT, if_true, if_false, Bool.and_true, Bool.and_false, Bool.or_false, Bool.not_true, Bool.not_false, List.isEmpty_cons, beq_self_eq_true, Bool.false_eq_true, Nat.succ_ne_self, decide_true, decide_false, u_0, u_1, h1, he, c1, and31, one_shl]
        · by_cases q3 : op = 21
          · subst q3
            simp only [codeEv, opsEv, oneEv, guardEv, opEv, St.opd, look, setT, St.put, St.new, St.read, St.write, lookL, setL, cellsAt_cons, splice, argsT, resEv, bin_or, bin_andNot, bin_ieq, bin_ine, one_int, cells_int, loc_agg, cells_agg, one_U, cells_U, callWith, careEv, dOneEv, dOpsEv, accOf, accEv, Option.toList_some, List.append_nil, List.map, List.length, List.take, List.drop, List.all, List.any, List.cons_append, List.nil_append, List.take_succ_cons, List.drop_succ_cons, Option.map_some, Nat.reduceEqDiff, Int.reduceEq, Nat.reduceAdd, Nat.reduceLeDiff, Nat.reduceLT, if_true, if_false, Bool.and_true, Bool.and_false, Bool.or_false, Bool.not_true, Bool.not_false, List.isEmpty_cons, beq_self_eq_true, Bool.false_eq_true, Nat.succ_ne_self, decide_true, decide_false, u_0, u_1, lg1, h1, he, c1, and31, one_shl]
          · simp only [codeEv, opsEv, oneEv, guardEv, opEv, St.opd, look, setT, St.put, St.new, St.read, St.write, lookL, setL, cellsAt_cons, splice, argsT, resEv, bin_or, bin_andNot, bin_ieq, bin_ine, one_int, cells_int, loc_agg, cells_agg, one_U, cells_U, callWith, careEv, dOneEv, dOpsEv, accOf, accEv, Option.toList_some, List.append_nil, List.map, List.length, List.take, List.drop, List.all, List.any, List.cons_append, List.nil_append, List.take_succ_cons, List.drop_succ_cons, Option.map_some, Nat.reduceEqDiff, Nat.reduceAdd, Nat.reduceLeDiff, Nat.reduceLT, if_true, if_false, Bool.and_true, Bool.and_false, Bool.or_false, Bool.not_true, Bool.not_false, List.isEmpty_cons, beq_self_eq_true, Bool.false_eq_true, Nat.succ_ne_self, decide_true, decide_false, u_0, u_1, h1, he, c1, q1, q2, q3, and31, one_shl]
    · simp only [h1, if_true] at c1
      simp only [codeEv, opsEv, oneEv, guardEv, opEv, St.opd, look, setT, St.put, St.new, St.read, St.write, lookL, setL, cellsAt_cons, splice, argsT, resEv, bin_ine, one_int, loc_agg, cells_agg, one_U, callWith, List.append_nil, List.map, List.length, List.take, List.drop, List.all, List.any, List.nil_append, List.take_succ_cons, List.drop_succ_cons, Option.map_some, Nat.reduceEqDiff, Nat.reduceAdd, Nat.reduceLeDiff, Nat.reduceLT, if_true, if_false, Bool.and_true, Bool.and_false, Bool.or_false, Bool.not_true, Bool.not_false, List.isEmpty_cons, beq_self_eq_true, Bool.false_eq_true, Nat.succ_ne_self, decide_true, decide_false, u_0, h1, he, c1, h2]
  · simp only [h1] at c1
    simp only [codeEv, opsEv, oneEv, guardEv, opEv, St.opd, look, setT, St.put, St.new, St.read, St.write, lookL, setL, cellsAt_cons, splice, argsT, resEv, bin_ine, one_int, loc_agg, cells_agg, one_U, callWith, List.append_nil, List.map, List.length, List.take, List.drop, List.all, List.any, List.nil_append, List.take_succ_cons, List.drop_succ_cons, Option.map_some, Nat.reduceEqDiff, Nat.reduceAdd, Nat.reduceLeDiff, Nat.reduceLT, if_true, if_false, Bool.and_true, Bool.false_and, Bool.or_false, Bool.not_false, List.isEmpty_cons, Bool.false_eq_true, Nat.succ_ne_self, decide_false, beq_tf, u_0, h1, c1, eq20]


end AG
