/- What the functions of instructions and their texts compute, and the laws of that. -/
import Derived.Test.YtekljfhfjncmjaaDoorAgCg3
import Derived.Test.YtekljfhfjncmjaaDoorAgFields
namespace AG
open Go Go.Proofs.YtekljfhfjncmjaaDoor
set_option maxRecDepth 100000
set_option maxHeartbeats 4000000
theorem decFrom_append : ∀ (l : List UInt8) (acc : Nat) (r : List UInt8), Lib.decFrom acc (l ++ r) = (Lib.decFrom acc l).bind fun n => Lib.decFrom n r
  | [], acc, r => rfl
  | b :: l, acc, r => by
    simp only [List.cons_append, Lib.decFrom]
    split
    · exact decFrom_append l _ r
    · rfl

theorem digs_dec : ∀ (k u : Nat), u < 10 ^ (k + 1) → Lib.decFrom 0 (digs (k + 1) u) = some u
  | 0, u, h => by
    have h' : u < 10 := by simpa using h
    have e : (UInt8.ofNat (48 + u)).toNat = 48 + u := by simp; omega
    simp only [digs, if_pos h', Lib.decFrom, Lib.digitVal, e]
    rw [if_pos (by omega)]
    simp
  | k + 1, u, h => by
    by_cases h' : u < 10
    · have e : (UInt8.ofNat (48 + u)).toNat = 48 + u := by simp; omega
      rw [digs, if_pos h']
      simp only [Lib.decFrom, Lib.digitVal, e]
      rw [if_pos (by omega)]
      simp
    · have e : (UInt8.ofNat (48 + u % 10)).toNat = 48 + u % 10 := by simp; omega
      rw [digs, if_neg h', decFrom_append, digs_dec k (u / 10) (by rw [Nat.pow_succ] at h; omega)]
      simp only [Option.bind_some, Lib.decFrom, Lib.digitVal, e]
      rw [if_pos (by omega)]
      simp only [Option.some.injEq]
      omega

/-- A text of parts is split into its parts. -/
theorem fieldsGo_part : ∀ (x cur r : List UInt8), (∀ b ∈ x, Lib.isSp b = false) → Lib.fieldsGo cur (x ++ r) = Lib.fieldsGo (cur ++ x) r
  | [], cur, r, _ => by simp
  | b :: x, cur, r, h => by
    rw [List.cons_append, Lib.fieldsGo_more _ _ _ (h b List.mem_cons_self), fieldsGo_part x _ r fun b' hb => h b' (List.mem_cons_of_mem _ hb)]
    simp

theorem fields_join : ∀ (x : List UInt8) (xs : List (List UInt8)), (∀ y ∈ x :: xs, y ≠ [] ∧ ∀ b ∈ y, Lib.isSp b = false) → Lib.fieldsGo [] (Lib.join (x :: xs) [32]) = x :: xs
  | x, [], h => by
    have := fieldsGo_part x [] [] (h x List.mem_cons_self).2
    rw [List.append_nil] at this
    rw [Lib.join_one, this, List.nil_append]
    have hx := (h x List.mem_cons_self).1
    cases x with
    | nil => exact absurd rfl hx
    | cons _ _ => simp [Lib.fieldsGo]
  | x, y :: r, h => by
    have e : Lib.join (x :: y :: r) [32] = x ++ 32 :: Lib.join (y :: r) [32] := by simp [Lib.join, List.intercalate]
    rw [e, fieldsGo_part x [] _ (h x List.mem_cons_self).2, List.nil_append, Lib.fieldsGo_end x 32 _ (by decide) (h x List.mem_cons_self).1, fields_join y r fun z hz => h z (List.mem_cons_of_mem _ hz)]

theorem digs_lenP : ∀ (k j u : Nat), u < 10 ^ (k + 1) → (digs j u).length ≤ k + 1
  | _, 0, _, _ => by simp [digs]
  | k, j + 1, u, h => by
    rw [digs]
    split
    · simp
    · rename_i h'
      match k, h with
      | 0, h => simp at h; omega
      | k + 1, h =>
        have := digs_lenP k j (u / 10) (by rw [Nat.pow_succ] at h; omega)
        simp only [List.length_append, List.length_cons, List.length_nil]
        omega
theorem digs_neP (k u : Nat) : digs (k + 1) u ≠ [] := by
  rw [digs]; split <;> simp

theorem atoi_itoa (n : Nat) (h : n < 10 ^ 18) : Lib.atoiAll (itoaB n).data.toList = .ok (n : Int) := by
  have hl : (itoaB n).data.toList = digs 20 n := rfl
  have hd := digs_dec 19 n (Nat.lt_of_lt_of_le h (by decide))
  have hne := digs_neP 19 n
  have hdig := digs_digit 20 n
  rw [hl, Lib.atoiAll_short _ (digs_lenP 17 20 n h)]
  cases hx : digs 20 n with
  | nil => exact absurd hx hne
  | cons b r =>
    rw [hx] at hd hdig
    have hb := hdig b List.mem_cons_self
    have h1 : (b == 45) = false := by simp; intro e; subst e; simp at hb
    have h2 : (b == 43) = false := by simp; intro e; subst e; simp at hb
    simp only [Lib.atoi, h1, h2, Bool.false_eq_true, if_false, Lib.decNat, List.isEmpty_cons, hd, Option.map_some, Lib.NumEnd.ofOption]

/-- A word: not empty, ASCII, no blank. -/
def okW (l : List UInt8) : Bool := !l.isEmpty && l.all fun b => !Lib.isSp b && decide (b.toNat < 128)
theorem okW_spec {l : List UInt8} (h : okW l = true) : l ≠ [] ∧ (∀ b ∈ l, Lib.isSp b = false) ∧ ∀ b ∈ l, b.toNat < 128 := by
  unfold okW at h
  simp only [Bool.and_eq_true, Bool.not_eq_true', List.isEmpty_eq_false_iff, List.all_eq_true, decide_eq_true_eq] at h
  exact ⟨h.1, fun b hb => (h.2 b hb).1, fun b hb => (h.2 b hb).2⟩
theorem okW_tabs : ((List.range 25).all fun i => i == 0 || okW (nameB i).data.toList) = true ∧ ((List.range 20).all fun i => i == 0 || okW (signB i).data.toList) = true ∧ ((List.range 4).all fun i => i == 0 || okW (unB i).data.toList) = true := by decide +kernel
theorem okW_name {i : Nat} (h1 : 1 ≤ i) (h : i < 25) : okW (nameB i).data.toList = true := by
  have := List.all_eq_true.1 okW_tabs.1 i (List.mem_range.2 h)
  simp only [Bool.or_eq_true, beq_iff_eq] at this
  exact this.resolve_left (by omega)
theorem okW_sign {i : Nat} (h1 : 1 ≤ i) (h : i < 20) : okW (signB i).data.toList = true := by
  have := List.all_eq_true.1 okW_tabs.2.1 i (List.mem_range.2 h)
  simp only [Bool.or_eq_true, beq_iff_eq] at this
  exact this.resolve_left (by omega)
theorem okW_un {i : Nat} (h1 : 1 ≤ i) (h : i < 4) : okW (unB i).data.toList = true := by
  have := List.all_eq_true.1 okW_tabs.2.2 i (List.mem_range.2 h)
  simp only [Bool.or_eq_true, beq_iff_eq] at this
  exact this.resolve_left (by omega)
theorem okW_itoa (n : Nat) : okW (itoaB n).data.toList = true := by
  have hl : (itoaB n).data.toList = digs 20 n := rfl
  rw [hl]
  unfold okW
  simp only [Bool.and_eq_true, Bool.not_eq_true', List.isEmpty_eq_false_iff, List.all_eq_true, decide_eq_true_eq]
  refine ⟨digs_neP 19 n, fun b hb => ?_⟩
  have h1 := digs_digit 20 n b hb
  refine ⟨?_, by omega⟩
  unfold Lib.isSp
  have q : ∀ k : UInt8, k.toNat < 48 → (b == k) = false := fun k hk => by
    simp only [beq_eq_false_iff_ne]
    rintro rfl
    omega
  simp only [q 9 (by decide), q 10 (by decide), q 11 (by decide), q 12 (by decide), q 13 (by decide), q 32 (by decide), Bool.or_false]
theorem okW_piece {w n : Int} (h : fitsI w n = true) : ∀ x ∈ piece w n, okW x.data.toList = true := by
  intro x hx
  unfold piece at hx
  split at hx
  · simp at hx
  · split at hx
    · rename_i h0 h7
      simp only [List.mem_singleton] at hx; subst hx
      subst h7
      simp [fitsI] at h
      exact okW_sign (by omega) (by omega)
    · split at hx
      · rename_i h0 h7 h8
        simp only [List.mem_singleton] at hx; subst hx
        subst h8
        simp [fitsI] at h
        exact okW_un (by omega) (by omega)
      · simp only [List.mem_singleton] at hx; subst hx
        exact okW_itoa _
theorem okW_parts {op a b c : Int} (h : codeOk op a b c = true) : ∀ x ∈ (parts op a b c).map (·.data.toList), okW x = true := by
  obtain ⟨h1, h2, h3, h4⟩ := codeOk_fits h
  intro x hx
  simp only [parts, List.map_cons, List.map_append, List.mem_cons, List.mem_append, List.mem_map] at hx
  rcases hx with rfl | ⟨y, hy, rfl⟩ | ⟨y, hy, rfl⟩ | ⟨y, hy, rfl⟩
  · exact okW_name (by omega) (by omega)
  · exact okW_piece h2 y hy
  · exact okW_piece h3 y hy
  · exact okW_piece h4 y hy

theorem join_bytes : ∀ (xs : List (List UInt8)) (b : UInt8), b ∈ Lib.join xs [32] → b = 32 ∨ ∃ x ∈ xs, b ∈ x
  | [], b, h => by simp [Lib.join_nil] at h
  | [x], b, h => by rw [Lib.join_one] at h; exact .inr ⟨x, by simp, h⟩
  | x :: y :: r, b, h => by
    have e : Lib.join (x :: y :: r) [32] = x ++ 32 :: Lib.join (y :: r) [32] := by simp [Lib.join, List.intercalate]
    rw [e, List.mem_append, List.mem_cons] at h
    rcases h with h | h | h
    · exact .inr ⟨x, by simp, h⟩
    · exact .inl h
    · rcases join_bytes (y :: r) b h with h | ⟨z, hz, h⟩
      · exact .inl h
      · exact .inr ⟨z, List.mem_cons_of_mem _ hz, h⟩

/-- The fields of a text are its parts. -/
theorem text_fields {op a b c : Int} (h : codeOk op a b c = true) : Lib.fieldsD (textB op a b c).data.toList = (parts op a b c).map (·.data.toList) := by
  have hp := okW_parts h
  have ht : (textB op a b c).data.toList = Lib.join ((parts op a b c).map (·.data.toList)) [32] := by rw [textB, if_pos h]; rfl
  rw [ht, Lib.fieldsD_ascii]
  · unfold Lib.fields
    cases hx : (parts op a b c).map (·.data.toList) with
    | nil => simp [parts] at hx
    | cons x xs =>
      rw [hx] at hp
      exact fields_join x xs fun y hy => ⟨(okW_spec (hp y hy)).1, (okW_spec (hp y hy)).2.1⟩
  · intro b hb
    rcases join_bytes _ b hb with rfl | ⟨x, hx, hb⟩
    · decide
    · exact (okW_spec (hp x hx)).2.2 b hb
end AG
