/- The plain law of masks. -/
import Derived.Test.YtenhcejelicjfaaDoorAgMaskS
namespace AG
open Go Go.Proofs.YtenhcejelicjfaaDoor
set_option maxRecDepth 100000
set_option maxHeartbeats 4000000
theorem sub_iff (x y : BitVec 32) : x &&& ~~~y = 0#32 ↔ ∀ i, i < 32 → x.getLsbD i = true → y.getLsbD i = true := by
  constructor
  · intro h i hi hx
    have := congrArg (fun z => z.getLsbD i) h
    simp only [BitVec.getLsbD_and, BitVec.getLsbD_not, BitVec.getLsbD_zero, hi, decide_true, Bool.true_and, hx] at this
    simpa using this
  · intro h
    apply BitVec.eq_of_getLsbD_eq
    intro i hi
    have := h i hi
    simp only [BitVec.getLsbD_and, BitVec.getLsbD_not, BitVec.getLsbD_zero, hi, decide_true, Bool.true_and]
    cases hx : x.getLsbD i
    · rfl
    · rw [this hx]; rfl
theorem or_iff (x y : BitVec 32) : x ||| y = y ↔ ∀ i, i < 32 → x.getLsbD i = true → y.getLsbD i = true := by
  constructor
  · intro h i hi hx
    have := congrArg (fun z => z.getLsbD i) h
    simp only [BitVec.getLsbD_or, hx, Bool.true_or] at this
    exact this.symm
  · intro h
    apply BitVec.eq_of_getLsbD_eq
    intro i hi
    have := h i hi
    simp only [BitVec.getLsbD_or]
    cases hx : x.getLsbD i
    · rfl
    · rw [this hx]; rfl
theorem and_iff (x y : BitVec 32) : x &&& y = y ↔ ∀ i, i < 32 → y.getLsbD i = true → x.getLsbD i = true := by
  constructor
  · intro h i hi hx
    have := congrArg (fun z => z.getLsbD i) h
    simp only [BitVec.getLsbD_and, hx, Bool.and_true] at this
    exact this
  · intro h
    apply BitVec.eq_of_getLsbD_eq
    intro i hi
    have := h i hi
    simp only [BitVec.getLsbD_and]
    cases hx : y.getLsbD i
    · simp
    · rw [this hx]; rfl

/-- One set lies in another. -/
def Sub (x y : BitVec 32) : Prop := ∀ i, i < 32 → x.getLsbD i = true → y.getLsbD i = true
theorem Sub.refl (x : BitVec 32) : Sub x x := fun _ _ h => h
theorem Sub.trans {x y z : BitVec 32} (h : Sub x y) (k : Sub y z) : Sub x z := fun i hi hx => k i hi (h i hi hx)
theorem Sub.antisymm {x y : BitVec 32} (h : Sub x y) (k : Sub y x) : x = y := by
  apply BitVec.eq_of_getLsbD_eq
  intro i hi
  have h1 := h i hi
  have h2 := k i hi
  cases hx : x.getLsbD i <;> cases hy : y.getLsbD i <;> simp_all
theorem Sub.orL (x y : BitVec 32) : Sub x (x ||| y) := fun i _ hx => by simp [hx]
theorem Sub.orR (x y : BitVec 32) : Sub y (x ||| y) := fun i _ hx => by simp [hx]
theorem Sub.or {x y z : BitVec 32} (h : Sub x z) (k : Sub y z) : Sub (x ||| y) z := fun i hi hx => by
  simp only [BitVec.getLsbD_or, Bool.or_eq_true] at hx
  exact hx.elim (h i hi) (k i hi)
theorem Sub.andL (x y : BitVec 32) : Sub (x &&& y) x := fun i _ hx => by simp at hx; exact hx.1
theorem Sub.andR (x y : BitVec 32) : Sub (x &&& y) y := fun i _ hx => by simp at hx; exact hx.2
theorem Sub.and {x y z : BitVec 32} (h : Sub z x) (k : Sub z y) : Sub z (x &&& y) := fun i hi hx => by
  simp [h i hi hx, k i hi hx]
theorem Sub.not {x y z : BitVec 32} (h : Sub x y) : Sub (x &&& ~~~z) (y &&& ~~~z) := fun i hi hx => by
  simp only [BitVec.getLsbD_and, Bool.and_eq_true] at hx ⊢
  exact ⟨h i hi hx.1, hx.2⟩

theorem ok_iff (a : Mk) : a.ok = true ↔ Sub a.must a.may ∧ 0 ≤ a.fr ∧ a.to ≤ 15 ∧ a.fr ≤ a.to := by
  unfold Mk.ok maskOk
  simp only [Bool.and_eq_true, decide_eq_true_eq, sub_iff]
  rfl

theorem join_of {a b : Mk} (ha : a.ok = true) (hb : b.ok = true) : a.join b = ⟨a.may ||| b.may, a.must &&& b.must, min a.fr b.fr, max a.to b.to⟩ := by
  unfold Mk.join
  simp only [ha, hb, Bool.and_true, if_true]

theorem within_iff {a b : Mk} : a.within b = true ↔ a.ok = true ∧ b.ok = true ∧ Sub a.may b.may ∧ Sub b.must a.must ∧ b.fr ≤ a.fr ∧ a.to ≤ b.to := by
  unfold Mk.within
  simp only [Bool.and_eq_true, decide_eq_true_eq]
  constructor
  · rintro ⟨ha, hb, h⟩
    rw [join_of ha hb] at h
    obtain ⟨b1, b2, b3, b4⟩ := b
    simp only [Mk.mk.injEq] at h
    obtain ⟨h1, h2, h3, h4⟩ := h
    exact ⟨ha, hb, (or_iff _ _).1 h1, (and_iff _ _).1 h2, by dsimp only; omega, by dsimp only; omega⟩
  · rintro ⟨ha, hb, h1, h2, h3, h4⟩
    refine ⟨ha, hb, ?_⟩
    rw [join_of ha hb]
    obtain ⟨b1, b2, b3, b4⟩ := b
    dsimp only at h1 h2 h3 h4
    simp only [Mk.mk.injEq]
    exact ⟨(or_iff _ _).2 h1, (and_iff _ _).2 h2, by omega, by omega⟩

theorem join_ok {a b : Mk} (ha : a.ok = true) (hb : b.ok = true) : (a.join b).ok = true := by
  rw [join_of ha hb]
  obtain ⟨a1, a2, a3, a4⟩ := (ok_iff a).1 ha
  obtain ⟨b1, b2, b3, b4⟩ := (ok_iff b).1 hb
  refine (ok_iff _).2 ⟨((Sub.andL _ _).trans a1).trans (Sub.orL _ _), ?_, ?_, ?_⟩ <;> dsimp only <;> omega
theorem join_comm {a b : Mk} (ha : a.ok = true) (hb : b.ok = true) : b.join a = a.join b := by
  rw [join_of ha hb, join_of hb ha, BitVec.or_comm, BitVec.and_comm, Int.min_comm, Int.max_comm]
theorem within_joinL {a b : Mk} (ha : a.ok = true) (hb : b.ok = true) : a.within (a.join b) = true := by
  refine within_iff.2 ⟨ha, join_ok ha hb, ?_⟩
  rw [join_of ha hb]
  exact ⟨Sub.orL _ _, Sub.andL _ _, by dsimp only; omega, by dsimp only; omega⟩
theorem within_joinR {a b : Mk} (ha : a.ok = true) (hb : b.ok = true) : b.within (a.join b) = true := by
  rw [← join_comm ha hb]; exact within_joinL hb ha
theorem join_within {a b c : Mk} (h : a.within c = true) (k : b.within c = true) : (a.join b).within c = true := by
  obtain ⟨ha, hc, h1, h2, h3, h4⟩ := within_iff.1 h
  obtain ⟨hb, _, k1, k2, k3, k4⟩ := within_iff.1 k
  refine within_iff.2 ⟨join_ok ha hb, hc, ?_⟩
  rw [join_of ha hb]
  exact ⟨h1.or k1, h2.and k2, by dsimp only; omega, by dsimp only; omega⟩
theorem within_antisymm {a b : Mk} (h : a.within b = true) (k : b.within a = true) : a = b := by
  obtain ⟨ha, hc, h1, h2, h3, h4⟩ := within_iff.1 h
  obtain ⟨hb, _, k1, k2, k3, k4⟩ := within_iff.1 k
  obtain ⟨a1, a2, a3, a4⟩ := a
  obtain ⟨b1, b2, b3, b4⟩ := b
  dsimp only at *
  simp only [Mk.mk.injEq]
  exact ⟨h1.antisymm k1, k2.antisymm h2, by omega, by omega⟩
theorem within_trans {a b c : Mk} (h : a.within b = true) (k : b.within c = true) : a.within c = true := by
  obtain ⟨ha, hc, h1, h2, h3, h4⟩ := within_iff.1 h
  obtain ⟨hb, hc', k1, k2, k3, k4⟩ := within_iff.1 k
  exact within_iff.2 ⟨ha, hc', h1.trans k1, k2.trans h2, by omega, by omega⟩

theorem do_ok {a : Mk} {e op x : Int} (ha : a.ok = true) (he : e = 0 → op = 21 → 0 ≤ x ∧ x ≤ 15) : (a.doI e op x).ok = true := by
  obtain ⟨a1, a2, a3, a4⟩ := (ok_iff a).1 ha
  unfold Mk.doI
  split
  · rename_i h
    simp only [Bool.and_eq_true, decide_eq_true_eq] at h
    split
    · exact (ok_iff _).2 ⟨(a1.trans (Sub.orL _ _)).or (Sub.orR _ _), a2, a3, a4⟩
    · split
      · exact (ok_iff _).2 ⟨a1.not, a2, a3, a4⟩
      · split
        · rename_i h21
          have := he h.2 h21
          exact (ok_iff _).2 ⟨a1, this.1, this.2, Int.le_refl _⟩
        · exact ha
  · exact ha
theorem do_within {a b : Mk} {e op x : Int} (h : a.within b = true) (he : e = 0 → op = 21 → 0 ≤ x ∧ x ≤ 15) : (a.doI e op x).within (b.doI e op x) = true := by
  obtain ⟨ha, hb, h1, h2, h3, h4⟩ := within_iff.1 h
  refine within_iff.2 ⟨do_ok ha he, do_ok hb he, ?_⟩
  unfold Mk.doI
  simp only [ha, hb, Bool.true_and]
  split
  · split
    · exact ⟨(h1.trans (Sub.orL _ _)).or (Sub.orR _ _), (h2.trans (Sub.orL _ _)).or (Sub.orR _ _), h3, h4⟩
    · split
      · exact ⟨h1.not, h2.not, h3, h4⟩
      · split
        · exact ⟨h1, h2, Int.le_refl _, Int.le_refl _⟩
        · exact ⟨h1, h2, h3, h4⟩
  · exact ⟨h1, h2, h3, h4⟩
theorem or_again (x y : BitVec 32) : x ||| y ||| y = x ||| y := by rw [BitVec.or_assoc, BitVec.or_self]
theorem and_again (x y : BitVec 32) : x &&& y &&& y = x &&& y := by rw [BitVec.and_assoc, BitVec.and_self]
theorem do_again {a : Mk} {e op x : Int} : (a.doI e op x).doI e op x = a.doI e op x := by
  unfold Mk.doI
  by_cases h : (a.ok && decide (e = 0)) = true
  · simp only [h, if_true]
    by_cases q1 : op = 19
    · simp only [q1, if_true]
      split
      · rw [or_again, or_again]
      · rfl
    · by_cases q2 : op = 20
      · simp only [q2, if_true, if_false, Int.reduceEq]
        split
        · rw [and_again, and_again]
        · rfl
      · by_cases q3 : op = 21
        · simp only [q3, if_true, if_false, Int.reduceEq]
          split <;> rfl
        · simp only [q1, q2, q3, if_false, h, if_true]
  · have h' := Bool.eq_false_iff.2 h
    simp only [h', Bool.false_eq_true, if_false]

end AG
