/- What the functions of sets and vectors compute, and the laws of that. -/
import Derived.Test.YtenhcejelicjfaaDoorAgLnB
namespace AG
open Go Go.Proofs.YtenhcejelicjfaaDoor
set_option maxRecDepth 100000
set_option maxHeartbeats 4000000
theorem codeEv_keep (call : Caller) (again : AC → St → Option (Ex × St)) (ts ls : List Nat) (a : AC) (n : Nat) (t : List (Nat × AV)) (l : List (Nat × List AV)) (m : Mem) :
    codeEv call again (.keep ts ls a) ⟨n, t, l, m⟩ = codeEv call again a ⟨n, keepT ts ls t, keepL l ls, m⟩ := rfl
theorem keepL_nil (l : List (Nat × List AV)) : keepL l [] = [] := rfl
theorem look_keepT (ts ls : List Nat) (T : List (Nat × AV)) (u : Nat) (h : u ∈ ts) : look (keepT ts ls T) u = if (look T u).locIn ls then look T u else .unk := by
  unfold keepT
  rw [look_map (fun u => if (look T u).locIn ls then look T u else .unk), if_pos h]
/-- What is known of more is known of less. -/
theorem keepT_sub {K : List Nat} {T st : List (Nat × AV)} (h : keepT K [] T = st) (K' : List Nat) (hs : K'.all K.contains = true) : keepT K' [] T = keepT K' [] st := by
  subst h
  unfold keepT
  apply List.map_congr_left
  intro u hu
  have hc : u ∈ K := by
    have := List.all_eq_true.1 hs u hu
    simpa using this
  have := look_keepT K [] T u hc
  unfold keepT at this
  rw [this]
  by_cases hb : (look T u).locIn [] = true
  · simp [hb]
  · simp only [hb, if_false, Bool.false_eq_true]
    simp [AV.locIn]

/-- The best of those that are meant. -/
def Best (e : V → Bool) (l : List V) : Option (Nat × V) → Prop
  | none => ∀ (j : Nat) (x : V), l[j]? = some x → e x = false
  | some (k, w) => l[k]? = some w ∧ e w = true ∧ ∀ (j : Nat) (x : V), l[j]? = some x → e x = true → j ≠ k → gt w x = true

theorem gt_trans {a b c : V} (h : gt a b = true) (k : gt b c = true) : gt a c = true := by
  unfold gt at *
  simp only [Bool.or_eq_true, Bool.and_eq_true, decide_eq_true_eq] at *
  omega
theorem gt_total {a b : V} (hl : a.line ≠ b.line) (h : gt a b = false) : gt b a = true := by
  unfold gt at *
  simp only [Bool.or_eq_true, Bool.and_eq_true, decide_eq_true_eq, Bool.or_eq_false_iff, Bool.and_eq_false_iff, decide_eq_false_iff_not] at *
  omega
theorem gt_asymm {a b : V} (h : gt a b = true) : gt b a = false := by
  unfold gt at *
  simp only [Bool.or_eq_true, Bool.and_eq_true, decide_eq_true_eq, Bool.or_eq_false_iff, Bool.and_eq_false_iff, decide_eq_false_iff_not] at *
  omega

theorem hasI_or (s : BitVec 32) (n : Nat) (hn : n < 32) (k : Int) : hasI (s ||| 1#32 <<< n) k = (hasI s k || decide (k = n)) := by
  unfold hasI
  by_cases h1 : 0 ≤ k
  · by_cases h2 : k < 32
    · simp only [h1, h2, decide_true, Bool.true_and, BitVec.getLsbD_or, BitVec.getLsbD_shiftLeft, BitVec.getLsbD_one]
      by_cases h3 : k = n
      · subst h3; simp [hn]
      · simp only [h3, decide_false, Bool.or_false]
        by_cases h4 : k.toNat < n
        · simp [h4]
        · simp [h4]; omega
    · simp only [h2, decide_false, Bool.false_and, Bool.and_false, Bool.false_or]
      symm; rw [decide_eq_false_iff_not]; omega
  · simp only [h1, decide_false, Bool.false_and, Bool.false_or]
    symm; rw [decide_eq_false_iff_not]; omega

theorem checkL_law : ∀ (l : List V) (s : BitVec 32), checkL s l = true → (∀ v ∈ l, okV v = true ∧ hasI s v.line = false) ∧ l.Pairwise (fun a b => a.line ≠ b.line)
  | [], s, h => ⟨fun _ h => (by cases h), List.Pairwise.nil⟩
  | v :: r, s, h => by
    unfold checkL at h
    simp only [Bool.and_eq_true, Bool.not_eq_true'] at h
    obtain ⟨h1, h2, h3⟩ := h
    obtain ⟨a, b⟩ := checkL_law r _ h3
    have ho := h1
    unfold okV at ho
    simp only [Bool.and_eq_true, Bool.not_eq_true', decide_eq_false_iff_not] at ho
    have key : ∀ x ∈ r, hasI s x.line = false ∧ v.line ≠ x.line := fun x hx => by
      have := (a x hx).2
      rw [hasI_or _ _ (by omega), Bool.or_eq_false_iff, decide_eq_false_iff_not] at this
      exact ⟨this.1, by omega⟩
    refine ⟨fun x hx => ?_, List.pairwise_cons.2 ⟨fun x hx => (key x hx).2, b⟩⟩
    rcases List.mem_cons.1 hx with rfl | hx
    · exact ⟨h1, h2⟩
    · exact ⟨(a x hx).1, (key x hx).1⟩

theorem checkV_law {l : List V} (h : checkV l = 0) : (∀ v ∈ l, okV v = true) ∧ l.Pairwise (fun a b => a.line ≠ b.line) ∧ l.length ≤ 32 := by
  unfold checkV at h
  split at h
  · cases h
  · split at h
    · rename_i h1 h2
      obtain ⟨a, b⟩ := checkL_law l _ h2
      exact ⟨fun v hv => (a v hv).1, b, by omega⟩
    · cases h

theorem pair_ne {l : List V} (h : l.Pairwise (fun a b => a.line ≠ b.line)) {i j : Nat} {a b : V} (ha : l[i]? = some a) (hb : l[j]? = some b) (hij : i ≠ j) : a.line ≠ b.line := by
  obtain ⟨hi, rfl⟩ := List.getElem?_eq_some_iff.1 ha
  obtain ⟨hj, rfl⟩ := List.getElem?_eq_some_iff.1 hb
  rcases Nat.lt_or_ge i j with h1 | h1
  · exact List.pairwise_iff_getElem.1 h i j hi hj h1
  · exact fun e => List.pairwise_iff_getElem.1 h j i hj hi (by omega) e.symm

/-- Up to here. -/
def BestTo (e : V → Bool) (l : List V) (i : Nat) : Option (Nat × V) → Prop
  | none => ∀ (j : Nat) (x : V), j < i → l[j]? = some x → e x = false
  | some (k, w) => k < i ∧ l[k]? = some w ∧ e w = true ∧ ∀ (j : Nat) (x : V), j < i → l[j]? = some x → e x = true → j ≠ k → gt w x = true

theorem takeL_to (e : V → Bool) {l : List V} (hp : l.Pairwise (fun a b => a.line ≠ b.line)) : ∀ (r : List V) (i : Nat) (b : Option (Nat × V)), l.drop i = r → BestTo e l i b → BestTo e l l.length (takeL e r i b)
  | [], i, b, hd, hb => by
    have hi : l.length ≤ i := List.drop_eq_nil_iff.1 hd
    unfold takeL
    cases b with
    | none => exact fun j x hj hx => hb j x (by omega) hx
    | some kw =>
      obtain ⟨k, w⟩ := kw
      obtain ⟨h1, h2, h3, h4⟩ := hb
      exact ⟨(List.getElem?_eq_some_iff.1 h2).1, h2, h3, fun j x hj hx => h4 j x (by omega) hx⟩
  | v :: r, i, b, hd, hb => by
    obtain ⟨hg, hi, hd'⟩ := drop_cons_get hd
    unfold takeL
    refine takeL_to e hp r (i + 1) _ hd' ?_
    have same : ∀ j, j < i + 1 → ¬ j < i → j = i := fun j h1 h2 => by omega
    by_cases he : e v = true
    · cases b with
      | none =>
        simp only [he, better, Bool.and_self, if_true]
        refine ⟨by omega, hg, he, fun j x hj hx hex hne => ?_⟩
        have := hb j x (by omega) hx
        rw [this] at hex; cases hex
      | some kw =>
        obtain ⟨k, w⟩ := kw
        obtain ⟨h1, h2, h3, h4⟩ := hb
        cases hbt : gt v w with
        | true =>
          simp only [he, better, hbt, Bool.and_self, if_true]
          refine ⟨by omega, hg, he, fun j x hj hx hex hne => ?_⟩
          by_cases hjk : j = k
          · subst hjk; rw [h2] at hx; cases hx; exact hbt
          · exact gt_trans hbt (h4 j x (by omega) hx hex hjk)
        | false =>
          simp only [he, better, hbt, Bool.and_false, Bool.false_eq_true, if_false]
          refine ⟨by omega, h2, h3, fun j x hj hx hex hne => ?_⟩
          by_cases hji : j = i
          · subst hji; rw [hg] at hx; cases hx
            exact gt_total (pair_ne hp hg h2 hne) hbt
          · exact h4 j x (by omega) hx hex hne
    · simp only [he, Bool.false_and, Bool.false_eq_true, if_false]
      cases b with
      | none =>
        intro j x hj hx
        by_cases hji : j = i
        · subst hji; rw [hg] at hx; cases hx; simpa using he
        · exact hb j x (by omega) hx
      | some kw =>
        obtain ⟨k, w⟩ := kw
        obtain ⟨h1, h2, h3, h4⟩ := hb
        refine ⟨by omega, h2, h3, fun j x hj hx hex hne => ?_⟩
        by_cases hji : j = i
        · subst hji; rw [hg] at hx; cases hx; exact absurd hex he
        · exact h4 j x (by omega) hx hex hne

theorem take_best {l : List V} (h : checkV l = 0) (P E : BitVec 32) (lv ac : Int) : Best (elig P E lv ac) l (takeR P E lv ac l) := by
  have hp := (checkV_law h).2.1
  have := takeL_to (elig P E lv ac) hp l 0 none rfl (fun j x hj => by omega)
  unfold takeR
  rw [if_pos h]
  generalize takeL (elig P E lv ac) l 0 none = b at this
  cases b with
  | none => exact fun j x hx => this j x (List.getElem?_eq_some_iff.1 hx).1 hx
  | some kw =>
    obtain ⟨k, w⟩ := kw
    obtain ⟨_, h2, h3, h4⟩ := this
    exact ⟨h2, h3, fun j x hx => h4 j x (List.getElem?_eq_some_iff.1 hx).1 hx⟩

end AG
