/- What the functions of masks and sets compute, and the laws of that. -/
import Derived.Test.YtenhcejelicjfaaDoorAgMc1
namespace AG
open Go Go.Proofs.YtenhcejelicjfaaDoor
set_option maxRecDepth 100000
set_option maxHeartbeats 4000000



theorem lg0 : logOk [] = true := rfl
/-- A mask may be. -/
def maskOk (may must : BitVec 32) (fr to : Int) : Bool := decide (must &&& ~~~may = 0#32) && (decide (0 ≤ fr) && (decide (to ≤ 15) && decide (fr ≤ to)))
def mkA (may must : BitVec 32) (fr to : Int) : AV := .agg [U may, U must, .int .i64 fr, .int .i64 to]

theorem check_spec (n : Nat) (may must : BitVec 32) (fr to : Int) (m : Mem) : run A (n + 1) 30 [mkA may must fr to] m = some (.int .i64 (if maskOk may must fr to then 0 else 2), m) := by
  rw [run_30]
  unfold fnEv a30 mkA maskOk
  by_cases h1 : must &&& ~~~may = 0#32
  · by_cases h2 : fr < 0
    · have h2' : ¬ (0 ≤ fr) := by omega
      simp only [codeEv, opsEv, oneEv, guardEv, opEv, St.opd, look, setT, St.put, St.new, St.read, lookL, setL, cellsAt_cons, argsT, resEv, bin_andNot, bin_une, bin_ilt, in_agg, in_loc, List.contains_cons, List.contains_nil, loc_int, cells_agg, keepT, keepL, List.map, List.length, List.take, List.drop, List.take_succ_cons, Option.map_some, Nat.reduceEqDiff, Nat.reduceAdd, Nat.reduceLeDiff, Nat.reduceLT, if_true, if_false, Bool.false_and, Bool.and_false, Bool.or_false, Bool.not_true, beq_self_eq_true, Bool.false_eq_true, Nat.succ_ne_self, decide_true, decide_false, beq_tf, u_0, h1, h2, h2']
    · have h2' : (0 ≤ fr) := by omega
      by_cases h3 : to ≤ 15
      · have h3' : ¬ (15 < to) := by omega
        by_cases h4 : fr ≤ to
        · have h4' : ¬ (to < fr) := by omega
          simp only [codeEv, opsEv, oneEv, guardEv, opEv, St.opd, look, setT, St.put, St.new, St.read, lookL, setL, cellsAt_cons, argsT, resEv, bin_andNot, bin_une, bin_ilt, bin_igt, in_agg, in_loc, List.contains_cons, List.contains_nil, loc_int, cells_agg, keepT, keepL, List.map, List.length, List.take, List.drop, List.take_succ_cons, Option.map_some, Nat.reduceEqDiff, Nat.reduceAdd, Nat.reduceLeDiff, Nat.reduceLT, if_true, if_false, Bool.and_true, Bool.or_false, Bool.not_true, beq_self_eq_true, Bool.false_eq_true, Nat.succ_ne_self, decide_true, decide_false, u_0, h1, h2, h2', h3, h3', h4, h4']
        · have h4' : (to < fr) := by omega
          simp only [codeEv, opsEv, oneEv, guardEv, opEv, St.opd, look, setT, St.put, St.new, St.read, lookL, setL, cellsAt_cons, argsT, resEv, bin_andNot, bin_une, bin_ilt, bin_igt, in_agg, in_loc, List.contains_cons, List.contains_nil, loc_int, cells_agg, keepT, keepL, List.map, List.length, List.take, List.drop, List.take_succ_cons, Option.map_some, Nat.reduceEqDiff, Nat.reduceAdd, Nat.reduceLeDiff, Nat.reduceLT, if_true, if_false, Bool.and_false, Bool.or_false, Bool.not_true, beq_self_eq_true, Bool.false_eq_true, Nat.succ_ne_self, decide_true, decide_false, u_0, h1, h2, h2', h3, h3', h4, h4']
      · have h3' : (15 < to) := by omega
        simp only [codeEv, opsEv, oneEv, guardEv, opEv, St.opd, look, setT, St.put, St.new, St.read, lookL, setL, cellsAt_cons, argsT, resEv, bin_andNot, bin_une, bin_ilt, bin_igt, in_agg, in_loc, List.contains_cons, List.contains_nil, loc_int, cells_agg, keepT, keepL, List.map, List.length, List.take, List.drop, List.take_succ_cons, Option.map_some, Nat.reduceEqDiff, Nat.reduceAdd, Nat.reduceLeDiff, Nat.reduceLT, if_true, if_false, Bool.false_and, Bool.and_false, Bool.or_false, Bool.not_true, beq_self_eq_true, Bool.false_eq_true, Nat.succ_ne_self, decide_true, decide_false, beq_tf, u_0, h1, h2, h2', h3, h3']
  · simp only [codeEv, opsEv, oneEv, guardEv, opEv, St.opd, look, setT, St.put, St.new, St.read, lookL, setL, cellsAt_cons, argsT, resEv, bin_andNot, bin_une, in_agg, in_loc, List.contains_cons, List.contains_nil, loc_int, cells_agg, keepT, keepL, List.map, List.length, List.take, List.drop, List.take_succ_cons, Option.map_some, Nat.reduceEqDiff, Nat.reduceAdd, Nat.reduceLeDiff, Nat.reduceLT, if_true, if_false, Bool.false_and, Bool.or_false, Bool.not_false, beq_self_eq_true, Bool.false_eq_true, Nat.succ_ne_self, decide_false, beq_tf, u_0, h1]

theorem first_spec (n : Nat) (m : Mem) : run A (n + 1) 28 [] m = some (mkA 0#32 0#32 0 0, m) := by
  rw [run_28]
  unfold fnEv a28 mkA
  simp only [codeEv, opsEv, oneEv, guardEv, opEv, St.opd, look, setT, St.put, St.new, St.read, St.write, lookL, setL, cellsAt_cons, splice, resEv, in_loc, List.contains_cons, List.contains_nil, one_int, loc_agg, cells_agg, one_U, fillEv, keepT, keepL, List.append_nil, List.map, List.length, List.take, List.drop, List.all, List.nil_append, List.take_succ_cons, List.drop_succ_cons, Nat.reduceEqDiff, Nat.reduceAdd, Nat.reduceLeDiff, Nat.reduceLT, if_true, if_false, Bool.and_true, Bool.or_false, Bool.not_false, List.isEmpty_cons, beq_self_eq_true, Bool.false_eq_true, Nat.succ_ne_self, u_0]

theorem eq00 : ((0 : Int) = 0) = True := by simp
theorem eq20 : ((2 : Int) = 0) = False := by simp
theorem join_spec (n : Nat) (may must : BitVec 32) (fr to : Int) (may' must' : BitVec 32) (fr' to' : Int) (m : Mem) : run A (n + 2) 31 [mkA may must fr to, mkA may' must' fr' to'] m =
    some (if maskOk may must fr to && maskOk may' must' fr' to' then mkA (may ||| may') (must &&& must') (min fr fr') (max to to') else mkA 0#32 0#32 0 0, m) := by
  rw [run_31]
  have c1 := check_spec n may must fr to
  have c2 := check_spec n may' must' fr' to'
  have c3 := first_spec n
  unfold mkA at c1 c2 c3
  unfold fnEv a31 mkA
  by_cases h1 : maskOk may must fr to = true
  · by_cases h2 : maskOk may' must' fr' to' = true
    · simp only [h1, h2, if_true] at c1 c2
      simp only [codeEv, opsEv, oneEv, guardEv, opEv, St.opd, look, setT, St.put, St.new, St.read, St.write, lookL, setL, cellsAt_cons, splice, argsT, resEv, bin_and, bin_or, bin_ine, in_agg, in_loc, List.contains_cons, List.contains_nil, one_int, loc_int, cells_int, loc_agg, cells_agg, one_U, cells_U, fillEv, callWith, keepT, keepL, List.append_nil, List.map, List.length, List.take, List.drop, List.all, List.any, List.cons_append, List.nil_append, List.take_succ_cons, List.drop_succ_cons, List.length_cons, Option.map_some, Nat.reduceEqDiff, Nat.reduceAdd, Nat.reduceLeDiff, Nat.reduceLT, if_true, if_false, Bool.and_true, Bool.or_true, Bool.or_false, Bool.true_or, Bool.not_true, Bool.not_false, List.isEmpty_cons, beq_self_eq_true, Bool.false_eq_true, Nat.succ_ne_self, decide_true, u_0, h1, h2, c1, c2, c3, max_i, min_i]
    · simp only [h1, h2, if_true] at c1 c2
      simp only [codeEv, opsEv, oneEv, guardEv, opEv, St.opd, look, setT, St.put, St.new, St.read, St.write, lookL, setL, cellsAt_cons, splice, argsT, resEv, bin_ine, in_agg, in_loc, List.contains_cons, List.contains_nil, one_int, loc_agg, cells_agg, one_U, callWith, keepT, keepL, List.append_nil, List.map, List.length, List.take, List.drop, List.all, List.any, List.nil_append, List.take_succ_cons, List.drop_succ_cons, Option.map_some, Nat.reduceEqDiff, Nat.reduceAdd, Nat.reduceLeDiff, Nat.reduceLT, if_true, if_false, Bool.and_true, Bool.and_false, Bool.or_true, Bool.or_false, Bool.true_or, Bool.not_true, Bool.not_false, List.isEmpty_cons, beq_self_eq_true, Bool.false_eq_true, Nat.succ_ne_self, decide_true, decide_false, u_0, h1, h2, c1, c2, c3, eq20]
  · simp only [h1] at c1
    simp only [codeEv, opsEv, oneEv, guardEv, opEv, St.opd, look, setT, St.put, St.new, St.read, St.write, lookL, setL, cellsAt_cons, splice, argsT, resEv, bin_ine, in_agg, in_loc, List.contains_cons, List.contains_nil, one_int, loc_agg, cells_agg, one_U, callWith, keepT, keepL, List.append_nil, List.map, List.length, List.take, List.drop, List.all, List.any, List.nil_append, List.take_succ_cons, List.drop_succ_cons, Option.map_some, Nat.reduceEqDiff, Nat.reduceAdd, Nat.reduceLeDiff, Nat.reduceLT, if_true, if_false, Bool.and_true, Bool.false_and, Bool.or_true, Bool.or_false, Bool.true_or, Bool.not_false, List.isEmpty_cons, beq_self_eq_true, Bool.false_eq_true, Nat.succ_ne_self, decide_false, beq_tf, u_0, h1, c1, c3, eq20]

/-- The least mask that has both's. -/
structure Mk where
  may : BitVec 32
  must : BitVec 32
  fr : Int
  to : Int
  deriving DecidableEq
def Mk.av (a : Mk) : AV := mkA a.may a.must a.fr a.to
def Mk.ok (a : Mk) : Bool := maskOk a.may a.must a.fr a.to
def Mk.join (a b : Mk) : Mk := if a.ok && b.ok then ⟨a.may ||| b.may, a.must &&& b.must, min a.fr b.fr, max a.to b.to⟩ else ⟨0#32, 0#32, 0, 0⟩
def Mk.within (a b : Mk) : Bool := a.ok && (b.ok && decide (a.join b = b))

theorem check_mk (n : Nat) (a : Mk) (m : Mem) : run A (n + 1) 30 [a.av] m = some (.int .i64 (if a.ok then 0 else 2), m) := check_spec n _ _ _ _ m
theorem join_mk (n : Nat) (a b : Mk) (m : Mem) : run A (n + 2) 31 [a.av, b.av] m = some ((a.join b).av, m) := by
  unfold Mk.av
  rw [join_spec]
  unfold Mk.join Mk.ok
  split <;> rfl

theorem eq_mk (a b : Mk) : eqEv (.agg [(0, 0), (1, 0), (2, 0), (3, 0)]) a.av b.av = some (decide (a = b)) := by
  obtain ⟨a1, a2, a3, a4⟩ := a
  obtain ⟨b1, b2, b3, b4⟩ := b
  simp only [eqEv, Mk.av, mkA, leavesEq, List.getElem?_cons_zero, List.getElem?_cons_succ, leaf_u, leaf_i, Mk.mk.injEq]
  by_cases h1 : a1 = b1 <;> by_cases h2 : a2 = b2 <;> by_cases h3 : a3 = b3 <;> by_cases h4 : a4 = b4 <;> simp [h1, h2, h3, h4]

theorem av_cells (a : Mk) : a.av = .agg [U a.may, U a.must, .int .i64 a.fr, .int .i64 a.to] := rfl

theorem within_mk (n : Nat) (a b : Mk) (m : Mem) : run A (n + 3) 32 [a.av, b.av] m = some (.bool (a.within b), m) := by
  rw [run_32]
  have c1 := check_mk (n + 1) a
  have c2 := check_mk (n + 1) b
  have c3 := join_mk n a b
  have e := eq_mk (a.join b) b
  simp only [av_cells] at c1 c2 c3 e ⊢
  unfold fnEv a32 Mk.within
  by_cases h1 : a.ok = true
  · by_cases h2 : b.ok = true
    · simp only [h1, h2, if_true] at c1 c2
      simp only [codeEv, opsEv, oneEv, guardEv, opEv, St.opd, look, setT, St.put, St.new, St.read, lookL, setL, cellsAt_cons, argsT, resEv, bin_ieq, in_agg, in_loc, List.contains_cons, List.contains_nil, loc_bool, loc_agg, cells_agg, callWith, keepT, keepL, careEv, dOneEv, dOpsEv, accOf, accEv, Option.toList_some, List.append_nil, List.map, List.length, List.take, List.drop, List.any, List.take_succ_cons, Option.map_some, Nat.reduceEqDiff, Nat.reduceAdd, Nat.reduceLeDiff, Nat.reduceLT, if_true, if_false, Bool.true_and, Bool.and_false, Bool.or_true, Bool.or_false, Bool.true_or, Bool.not_true, beq_self_eq_true, Bool.false_eq_true, Nat.succ_ne_self, decide_true, lg0, h1, h2, c1, c2, c3, e]
    · simp only [h1, h2] at c1 c2
      simp only [codeEv, opsEv, oneEv, guardEv, opEv, St.opd, look, setT, St.put, St.new, St.read, lookL, setL, cellsAt_cons, argsT, resEv, bin_ieq, in_agg, in_loc, List.contains_cons, List.contains_nil, loc_bool, loc_agg, cells_agg, callWith, keepT, keepL, careEv, dOneEv, dOpsEv, accOf, accEv, Option.toList_some, List.append_nil, List.map, List.length, List.take, List.drop, List.any, List.take_succ_cons, Option.map_some, Nat.reduceEqDiff, Nat.reduceAdd, Nat.reduceLeDiff, Nat.reduceLT, if_true, if_false, Bool.false_and, Bool.and_false, Bool.or_true, Bool.or_false, Bool.true_or, Bool.not_true, beq_self_eq_true, Bool.false_eq_true, Nat.succ_ne_self, decide_true, decide_false, beq_ft, lg0, h1, h2, c1, c2, eq20]
  · simp only [h1] at c1
    simp only [codeEv, opsEv, oneEv, guardEv, opEv, St.opd, look, setT, St.put, St.new, St.read, lookL, setL, cellsAt_cons, argsT, resEv, bin_ieq, in_agg, in_loc, List.contains_cons, List.contains_nil, loc_bool, loc_agg, cells_agg, callWith, keepT, keepL, careEv, dOneEv, dOpsEv, accOf, accEv, Option.toList_some, List.append_nil, List.map, List.length, List.take, List.drop, List.any, List.take_succ_cons, Option.map_some, Nat.reduceEqDiff, Nat.reduceAdd, Nat.reduceLeDiff, Nat.reduceLT, if_true, if_false, Bool.false_and, Bool.and_false, Bool.or_true, Bool.or_false, Bool.true_or, Bool.not_true, beq_self_eq_true, Bool.false_eq_true, Nat.succ_ne_self, decide_false, beq_ft, lg0, h1, c1, eq20]

theorem sub_iff (x y : BitVec 32) : x &&& ~~~y = 0#32 ↔ ∀ i, i < 32 → x.getLsbD i = true → y.getLsbD i = true := by
  constructor
  · intro h i hi hx
    have := congrArg (fun z => z.getLsbD i) h
    simp only [BitVec.getLsbD_and, BitVec.getLsbD_not, BitVec.getLsbD_zero, hi, decide_true, Bool.true_and, hx] at this
    simpa using this
  · intro h
    apply BitVec.eq_of_getLsbD_eq
    intro i hi
    have := h i hi
    simp only [BitVec.getLsbD_and, BitVec.getLsbD_not, BitVec.getLsbD_zero, hi, decide_true, Bool.true_and]
    cases hx : x.getLsbD i
    · rfl
    · rw [this hx]; rfl
theorem or_iff (x y : BitVec 32) : x ||| y = y ↔ ∀ i, i < 32 → x.getLsbD i = true → y.getLsbD i = true := by
  constructor
  · intro h i hi hx
    have := congrArg (fun z => z.getLsbD i) h
    simp only [BitVec.getLsbD_or, hx, Bool.true_or] at this
    exact this.symm
  · intro h
    apply BitVec.eq_of_getLsbD_eq
    intro i hi
    have := h i hi
    simp only [BitVec.getLsbD_or]
    cases hx : x.getLsbD i
    · rfl
    · rw [this hx]; rfl
theorem and_iff (x y : BitVec 32) : x &&& y = y ↔ ∀ i, i < 32 → y.getLsbD i = true → x.getLsbD i = true := by
  constructor
  · intro h i hi hx
    have := congrArg (fun z => z.getLsbD i) h
    simp only [BitVec.getLsbD_and, hx, Bool.and_true] at this
    exact this
  · intro h
    apply BitVec.eq_of_getLsbD_eq
    intro i hi
    have := h i hi
    simp only [BitVec.getLsbD_and]
    cases hx : y.getLsbD i
    · simp
    · rw [this hx]; rfl

/-- One set lies in another. -/
def Sub (x y : BitVec 32) : Prop := ∀ i, i < 32 → x.getLsbD i = true → y.getLsbD i = true
theorem Sub.refl (x : BitVec 32) : Sub x x := fun _ _ h => h
theorem Sub.trans {x y z : BitVec 32} (h : Sub x y) (k : Sub y z) : Sub x z := fun i hi hx => k i hi (h i hi hx)
theorem Sub.antisymm {x y : BitVec 32} (h : Sub x y) (k : Sub y x) : x = y := by
  apply BitVec.eq_of_getLsbD_eq
  intro i hi
  have h1 := h i hi
  have h2 := k i hi
  cases hx : x.getLsbD i <;> cases hy : y.getLsbD i <;> simp_all
theorem Sub.orL (x y : BitVec 32) : Sub x (x ||| y) := fun i _ hx => by simp [hx]
theorem Sub.orR (x y : BitVec 32) : Sub y (x ||| y) := fun i _ hx => by simp [hx]
theorem Sub.or {x y z : BitVec 32} (h : Sub x z) (k : Sub y z) : Sub (x ||| y) z := fun i hi hx => by
  simp only [BitVec.getLsbD_or, Bool.or_eq_true] at hx
  exact hx.elim (h i hi) (k i hi)
theorem Sub.andL (x y : BitVec 32) : Sub (x &&& y) x := fun i _ hx => by simp at hx; exact hx.1
theorem Sub.andR (x y : BitVec 32) : Sub (x &&& y) y := fun i _ hx => by simp at hx; exact hx.2
theorem Sub.and {x y z : BitVec 32} (h : Sub z x) (k : Sub z y) : Sub z (x &&& y) := fun i hi hx => by
  simp [h i hi hx, k i hi hx]
theorem Sub.not {x y z : BitVec 32} (h : Sub x y) : Sub (x &&& ~~~z) (y &&& ~~~z) := fun i hi hx => by
  simp only [BitVec.getLsbD_and, Bool.and_eq_true] at hx ⊢
  exact ⟨h i hi hx.1, hx.2⟩

theorem ok_iff (a : Mk) : a.ok = true ↔ Sub a.must a.may ∧ 0 ≤ a.fr ∧ a.to ≤ 15 ∧ a.fr ≤ a.to := by
  unfold Mk.ok maskOk
  simp only [Bool.and_eq_true, decide_eq_true_eq, sub_iff]
  rfl

theorem join_of {a b : Mk} (ha : a.ok = true) (hb : b.ok = true) : a.join b = ⟨a.may ||| b.may, a.must &&& b.must, min a.fr b.fr, max a.to b.to⟩ := by
  unfold Mk.join
  simp only [ha, hb, Bool.and_true, if_true]

theorem within_iff {a b : Mk} : a.within b = true ↔ a.ok = true ∧ b.ok = true ∧ Sub a.may b.may ∧ Sub b.must a.must ∧ b.fr ≤ a.fr ∧ a.to ≤ b.to := by
  unfold Mk.within
  simp only [Bool.and_eq_true, decide_eq_true_eq]
  constructor
  · rintro ⟨ha, hb, h⟩
    rw [join_of ha hb] at h
    obtain ⟨b1, b2, b3, b4⟩ := b
    simp only [Mk.mk.injEq] at h
    obtain ⟨h1, h2, h3, h4⟩ := h
    exact ⟨ha, hb, (or_iff _ _).1 h1, (and_iff _ _).1 h2, by dsimp only; omega, by dsimp only; omega⟩
  · rintro ⟨ha, hb, h1, h2, h3, h4⟩
    refine ⟨ha, hb, ?_⟩
    rw [join_of ha hb]
    obtain ⟨b1, b2, b3, b4⟩ := b
    dsimp only at h1 h2 h3 h4
    simp only [Mk.mk.injEq]
    exact ⟨(or_iff _ _).2 h1, (and_iff _ _).2 h2, by omega, by omega⟩

theorem join_ok {a b : Mk} (ha : a.ok = true) (hb : b.ok = true) : (a.join b).ok = true := by
  rw [join_of ha hb]
  obtain ⟨a1, a2, a3, a4⟩ := (ok_iff a).1 ha
  obtain ⟨b1, b2, b3, b4⟩ := (ok_iff b).1 hb
  refine (ok_iff _).2 ⟨((Sub.andL _ _).trans a1).trans (Sub.orL _ _), ?_, ?_, ?_⟩ <;> dsimp only <;> omega
theorem join_comm {a b : Mk} (ha : a.ok = true) (hb : b.ok = true) : b.join a = a.join b := by
  rw [join_of ha hb, join_of hb ha, BitVec.or_comm, BitVec.and_comm, Int.min_comm, Int.max_comm]
theorem within_joinL {a b : Mk} (ha : a.ok = true) (hb : b.ok = true) : a.within (a.join b) = true := by
  refine within_iff.2 ⟨ha, join_ok ha hb, ?_⟩
  rw [join_of ha hb]
  exact ⟨Sub.orL _ _, Sub.andL _ _, by dsimp only; omega, by dsimp only; omega⟩
theorem within_joinR {a b : Mk} (ha : a.ok = true) (hb : b.ok = true) : b.within (a.join b) = true := by
  rw [← join_comm ha hb]; exact within_joinL hb ha
theorem join_within {a b c : Mk} (h : a.within c = true) (k : b.within c = true) : (a.join b).within c = true := by
  obtain ⟨ha, hc, h1, h2, h3, h4⟩ := within_iff.1 h
  obtain ⟨hb, _, k1, k2, k3, k4⟩ := within_iff.1 k
  refine within_iff.2 ⟨join_ok ha hb, hc, ?_⟩
  rw [join_of ha hb]
  exact ⟨h1.or k1, h2.and k2, by dsimp only; omega, by dsimp only; omega⟩
theorem within_antisymm {a b : Mk} (h : a.within b = true) (k : b.within a = true) : a = b := by
  obtain ⟨ha, hc, h1, h2, h3, h4⟩ := within_iff.1 h
  obtain ⟨hb, _, k1, k2, k3, k4⟩ := within_iff.1 k
  obtain ⟨a1, a2, a3, a4⟩ := a
  obtain ⟨b1, b2, b3, b4⟩ := b
  dsimp only at *
  simp only [Mk.mk.injEq]
  exact ⟨h1.antisymm k1, k2.antisymm h2, by omega, by omega⟩
theorem within_trans {a b c : Mk} (h : a.within b = true) (k : b.within c = true) : a.within c = true := by
  obtain ⟨ha, hc, h1, h2, h3, h4⟩ := within_iff.1 h
  obtain ⟨hb, hc', k1, k2, k3, k4⟩ := within_iff.1 k
  exact within_iff.2 ⟨ha, hc', h1.trans k1, k2.trans h2, by omega, by omega⟩


end AG
