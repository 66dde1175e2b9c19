/- The abstract machine, part 20: arguments: numbers, slices of rows of numbers; the blocks that they lead to lie behind the listed variables. -/
import Derived.Test.YtkmbepgofajfkaaDoorAgArgs
import Derived.WideShapes
namespace AG
noncomputable section
open Go Go.RowKit Go.ChangeShapes Go.WideShapes

section
variable {P : Program} {w : World} {H : Type} {enc : TypeId × Value → H} {spare : Nat → Bool} {held : Bool}

theorem okWide_slice_spot {e t : TypeId} {r : Reach} {b0 : Nat} {a : Addr} {len cap : Nat} (hu : P.underlying t = some (.slice e)) (h : Value.okWide P w r b0 t (.slice (some a) len cap)) : a.spot = none := by
  unfold Value.okWide at h
  rw [hu] at h
  simp only [Cell.okWide, hu, Cell.ok] at h
  exact h.2.2.2.1

/-- A slice of rows of numbers. -/
theorem slice_of {t e : TypeId} {v : Value} {d : DataW H} {p : List MemPlace} (hu : P.underlying t = some (.slice e)) {r : Reach} {b0 : Nat} (hval : Value.okWide P w r b0 t v) (h : DataW.Trod enc P w 0 spare held t v d p) {n : Nat} {ks : List IntKind}
    (hk : kdF P n e = some ks) (hc : P.cellsOf e = ks.length) (hpos : 0 < ks.length) :
    v = .slice none 0 0 ∨ ∃ blk off ln cap, v = .slice (some ⟨blk, off, none⟩) ln cap ∧ ln ≤ cap ∧ cap ≤ maxLen ∧
      (0 < ln → ∃ rc te fz, w.heap[blk]? = some (.cells rc te fz) ∧ off + ln * ks.length ≤ rc.size ∧ ∀ i, i < ln → Ints ks ((rc.toList.drop (off + i * ks.length)).take ks.length)) := by
  obtain ⟨a0, len, cap, rfl⟩ := okWide_slice hu hval
  obtain ⟨fuel, h⟩ := h
  rcases DataW.trod_slice hu h with ⟨hcs, _⟩ | ⟨a, ln, cap', elems, rest, fl, _, hcs, _, _, hlc, hcap, hlen, hel, _, _⟩
  · simp only [Value.cells, List.cons.injEq, and_true] at hcs
    exact .inl hcs
  · simp only [Value.cells, List.cons.injEq, and_true, Value.slice.injEq] at hcs
    obtain ⟨rfl, rfl, rfl⟩ := hcs
    have hs := okWide_slice_spot hu hval
    obtain ⟨blk, off, spot⟩ := a
    simp only at hs
    subst hs
    refine .inr ⟨blk, off, len, cap, rfl, hlc, hcap, fun h0 => ?_⟩
    have get : ∀ i, i < len → ∃ vs, w.cells? 0 ((⟨blk, off, none⟩ : Addr).add (i * P.cellsOf e)) (P.cellsOf e) = some vs ∧ ∃ y, DataW.trod enc P w 0 spare held fl e vs = some y := by
      intro i hi
      have h7 := hel i hi
      rw [List.getElem?_eq_getElem (by omega)] at h7
      simp only [Option.bind_eq_some_iff] at h7
      obtain ⟨vs, hvs, htr⟩ := h7
      exact ⟨vs, hvs, _, htr⟩
    obtain ⟨vs0, hv0, _⟩ := get 0 h0
    have hv0' := hv0
    simp only [World.cells?, Nat.zero_le, if_true] at hv0
    obtain ⟨_, hq⟩ := mapM_range_shift hv0
    obtain ⟨x0, _, hx0⟩ := hq 0 (by omega)
    rw [Nat.zero_mul] at hx0
    have e0 : ((⟨blk, off, none⟩ : Addr).add 0).add 0 = (⟨blk, off, none⟩ : Addr).add 0 := by simp [Addr.add]
    rw [e0] at hx0
    obtain ⟨rc, te, fz, hh, _, _⟩ := cell_add hx0
    refine ⟨rc, te, fz, hh, ?_, fun i hi => ?_⟩
    · obtain ⟨vs, hvs, y, htr⟩ := get (len - 1) (by omega)
      have hI := kdF_ok n fl e vs y ks htr hk
      have hl := hI.length
      have := cells_take (a := ⟨blk, off, none⟩) hh hvs
      rw [this, List.length_take, List.length_drop, Array.length_toList, hc] at hl
      have hm : len * ks.length = (len - 1) * ks.length + ks.length := by
        obtain ⟨k, rfl⟩ : ∃ k, len = k + 1 := ⟨len - 1, by omega⟩
        rw [Nat.add_sub_cancel, Nat.add_mul, Nat.one_mul]
      simp only at hl
      omega
    · obtain ⟨vs, hvs, y, htr⟩ := get i hi
      have hI := kdF_ok n fl e vs y ks htr hk
      have := cells_take (a := ⟨blk, off, none⟩) hh hvs
      rw [this, hc] at hI
      exact hI
end

/-- Rows one behind the other. -/
theorem rows_of {α : Type} (f : α → List AV) (R : α → Prop) (c : Nat) (hf : ∀ x, (f x).length = c) (cs : List Value) : ∀ ln, (∀ i, i < ln → ∃ x, R x ∧ ∀ ρ, VRs ρ (f x) ((cs.drop (i * c)).take c)) → ln * c ≤ cs.length →
    ∃ l : List α, l.length = ln ∧ (∀ x ∈ l, R x) ∧ ∀ ρ, VRs ρ (l.flatMap f) (cs.take (ln * c))
  | 0, _, _ => ⟨[], rfl, fun _ h => (by cases h), fun ρ => by simp [VRs]⟩
  | ln + 1, h, hl => by
    have e : (ln + 1) * c = ln * c + c := by rw [Nat.add_mul, Nat.one_mul]
    obtain ⟨l, h1, h2, h3⟩ := rows_of f R c hf cs ln (fun i hi => h i (by omega)) (by omega)
    obtain ⟨x, hx, hv⟩ := h ln (by omega)
    refine ⟨l ++ [x], by simp [h1], fun y hy => ?_, fun ρ => ?_⟩
    · rcases List.mem_append.1 hy with hy | hy
      · exact h2 y hy
      · simp only [List.mem_singleton] at hy; subst hy; exact hx
    · rw [List.flatMap_append, e, List.take_add]
      refine (h3 ρ).append ?_
      simpa using hv ρ

theorem flat_len {α : Type} (f : α → List AV) (c : Nat) (hf : ∀ x, (f x).length = c) : ∀ l : List α, (l.flatMap f).length = l.length * c
  | [] => by simp
  | x :: l => by simp [flat_len f c hf l, hf, Nat.add_mul, Nat.add_comm]

theorem flat_drop {α : Type} (f : α → List AV) (c : Nat) (hf : ∀ x, (f x).length = c) : ∀ (l : List α) (i : Nat), (l.flatMap f).drop (i * c) = (l.drop i).flatMap f
  | l, 0 => by simp
  | [], i + 1 => by simp
  | x :: l, i + 1 => by
    rw [List.flatMap_cons, Nat.add_mul, Nat.one_mul, Nat.add_comm, List.drop_append, hf]
    rw [List.drop_of_length_le (by rw [hf]; omega), List.nil_append, Nat.add_sub_cancel_left, flat_drop f c hf l i, List.drop_succ_cons]

theorem flat_cells {α : Type} (f : α → List AV) (c : Nat) (hf : ∀ x, (f x).length = c) {l : List α} {i : Nat} {x : α} (h : l[i]? = some x) : cellsAt (l.flatMap f) (0 + i * c) c = some (f x) := by
  obtain ⟨hi, hx⟩ := List.getElem?_eq_some_iff.1 h
  unfold cellsAt
  rw [Nat.zero_add, flat_len f c hf, if_pos (by
    have : (i + 1) * c ≤ l.length * c := Nat.mul_le_mul_right c hi
    rw [Nat.add_mul, Nat.one_mul] at this
    exact this), flat_drop f c hf, List.drop_eq_getElem_cons hi, List.flatMap_cons, hx]
  rw [List.take_append_of_le_length (by rw [hf]; exact Nat.le_refl _), List.take_of_length_le (by rw [hf]; exact Nat.le_refl _)]

/-- More blocks behind those of the start. -/
theorem MR.more {P : Program} {bs bs' : List ABlk} {ρ : Rho} {w : World} (hm : MR P ρ (memOf bs) w) (ho : bs.all (fun b => !b.own) = true) (ho' : bs'.all (fun b => !b.own) = true) (hle : bs.length + bs'.length ≤ 2 ^ depth) (xs : List At) (hl : xs.length = bs'.length)
    (hb : ∀ (i : Nat) (b : ABlk), bs'[i]? = some b → ∃ x : At, xs[i]? = some x ∧ BR (ρ ++ xs) x w b) : MR P (ρ ++ xs) (memOf (bs ++ bs')) w := by
  obtain ⟨h1, h2⟩ := foldl_push bs { n := 0, t := .nil } (by simp; omega)
  simp only [Nat.zero_add, Nat.not_lt_zero, if_false, Nat.sub_zero] at h1 h2
  have hlen : ρ.length = bs.length := by have := hm.len; unfold memOf at this; rw [h1] at this; exact this
  have hg : ∀ (i : Nat) (b : ABlk), bs[i]? = some b → (memOf bs).get i = some b := fun i b h => by unfold memOf; rw [h2]; exact h
  refine MR.of_list (by simp [hlen, hl]) (by simp only [List.length_append]; exact hle) (fun g hg' => ?_) (fun i b hib => ?_) (fun b hb' => ?_)
  · obtain ⟨x, hx, h3⟩ := hm.glob g hg'
    exact ⟨x, Rho.le_append ρ xs g x hx, h3⟩
  · by_cases hi : i < bs.length
    · rw [List.getElem?_append_left hi] at hib
      obtain ⟨x, hx, hbr⟩ := hm.blk i b (hg i b hib)
      exact ⟨x, Rho.le_append ρ xs i x hx, hbr.mono (Rho.le_append ρ xs)⟩
    · rw [List.getElem?_append_right (by omega)] at hib
      obtain ⟨x, hx, hbr⟩ := hb _ _ hib
      exact ⟨x, by rw [List.getElem?_append_right (by omega), hlen]; exact hx, hbr⟩
  · rcases List.mem_append.1 hb' with h | h
    · have := List.all_eq_true.1 ho b h; simpa using this
    · have := List.all_eq_true.1 ho' b h; simpa using this

/-- What a slice argument is to the machine: the value, and the block behind it (number 'B'). -/
def sliceArg {α : Type} (f : α → List AV) (c : Nat) (B : Nat) (v : AV) (b : ABlk) (l : List α) : Prop :=
  (v = .nils ∧ b = .dead ∧ l = []) ∨ ∃ cap, v = .slice B 0 l.length (some cap) c ∧ ((b = .dead ∧ l = []) ∨ b = .cells (l.flatMap f) false)

theorem sliceArg.own {α : Type} {f : α → List AV} {c B : Nat} {v : AV} {b : ABlk} {l : List α} (h : sliceArg f c B v b l) : b.own = false := by
  rcases h with ⟨_, rfl, _⟩ | ⟨_, _, ⟨rfl, _⟩ | rfl⟩ <;> rfl

theorem slice_arg {P : Program} {w : World} {H : Type} {enc : TypeId × Value → H} {spare : Nat → Bool} {held : Bool} {t e : TypeId} {v : Value} {d : DataW H} {p : List MemPlace} (hu : P.underlying t = some (.slice e)) {r : Reach} {b0 : Nat} (hval : Value.okWide P w r b0 t v)
    (h : DataW.Trod enc P w 0 spare held t v d p) {n : Nat} {ks : List IntKind} (hk : kdF P n e = some ks) (hc : P.cellsOf e = ks.length) (hpos : 0 < ks.length) {α : Type} (f : α → List AV) (R : α → Prop) (hf : ∀ x, (f x).length = ks.length)
    (row : ∀ cs, Ints ks cs → ∃ x, R x ∧ ∀ ρ, VRs ρ (f x) cs) (B : Nat) :
    ∃ (av : AV) (b : ABlk) (x : At) (l : List α), sliceArg f ks.length B av b l ∧ (∀ y ∈ l, R y) ∧ (l.length : Int) ≤ maxLen ∧ ∀ ρ : Rho, ρ[B]? = some x → VR ρ av v ∧ BR ρ x w b := by
  rcases slice_of hu hval h hk hc hpos with rfl | ⟨blk, off, ln, cap, rfl, h1, h2, h3⟩
  · exact ⟨.nils, .dead, ⟨0, 0, 0, 0⟩, [], .inl ⟨rfl, rfl, rfl⟩, (fun _ h => by cases h), by simp [maxLen], fun ρ _ => ⟨by simp [VR], trivial⟩⟩
  · by_cases h0 : 0 < ln
    · obtain ⟨rc, te, fz, hh, hsz, hrow⟩ := h3 h0
      obtain ⟨l, hl, hR, hv⟩ := rows_of f R ks.length hf (rc.toList.drop off) ln (fun i hi => by
        obtain ⟨x, hx, hv⟩ := row _ (hrow i hi)
        exact ⟨x, hx, fun ρ => by rw [List.drop_drop]; exact hv ρ⟩) (by
        have e : rc.toList.length = rc.size := Array.length_toList
        rw [List.length_drop, e]; omega)
      refine ⟨.slice B 0 l.length (some cap) ks.length, .cells (l.flatMap f) false, ⟨blk, off, rc.size, 0⟩, l, .inr ⟨cap, rfl, .inr rfl⟩, hR, by omega, fun ρ hx => ⟨?_, ?_⟩⟩
      · simp only [VR, hl]
        exact ⟨⟨blk, off, rc.size, 0⟩, cap, hx, rfl, h1, h2, rfl⟩
      · refine ⟨rc, te, fz, hh, ?_, (fun h => by cases h), ?_⟩
        · rw [flat_len f _ hf, hl]; exact hv ρ
        · simp only [flat_len f _ hf, hl]; omega
    · obtain rfl : ln = 0 := by omega
      refine ⟨.slice B 0 0 (some cap) ks.length, .dead, ⟨blk, off, 0, 0⟩, [], .inr ⟨cap, rfl, .inl ⟨rfl, rfl⟩⟩, (fun _ h => by cases h), by simp [maxLen], fun ρ hx => ⟨?_, trivial⟩⟩
      simp only [VR]
      exact ⟨⟨blk, off, 0, 0⟩, cap, hx, rfl, h1, h2, rfl⟩

/-- The block number B of a memory made of blocks. -/
theorem memOf_get {bs : List ABlk} (hle : bs.length ≤ 2 ^ depth) (i : Nat) : (memOf bs).get i = bs[i]? := by
  obtain ⟨_, h2⟩ := foldl_push bs { n := 0, t := .nil } (by simpa using hle)
  unfold memOf
  rw [h2]
  simp
theorem memOf_n {bs : List ABlk} (hle : bs.length ≤ 2 ^ depth) : (memOf bs).n = bs.length := by
  obtain ⟨h1, _⟩ := foldl_push bs { n := 0, t := .nil } (by simpa using hle)
  unfold memOf
  rw [h1]
  simp
end
end AG
