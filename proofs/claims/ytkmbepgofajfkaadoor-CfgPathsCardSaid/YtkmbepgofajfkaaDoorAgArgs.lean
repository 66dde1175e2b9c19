/- The abstract machine, part 19: arguments: numbers, structs of numbers, slices of them. -/
import Derived.Test.YtkmbepgofajfkaaDoorAgSym
namespace AG
noncomputable section
open Go Go.RowKit

/-- Cells that hold numbers of these kinds. -/
def Ints : List IntKind → List Value → Prop
  | [], cs => cs = []
  | k :: ks, cs => ∃ n rest, cs = .int k n :: rest ∧ (Lit.int k n).wf = true ∧ Ints ks rest

theorem Ints.append : ∀ {ks ks' : List IntKind} {cs cs' : List Value}, Ints ks cs → Ints ks' cs' → Ints (ks ++ ks') (cs ++ cs')
  | [], _, _, _, h, h' => by simp only [Ints] at h; subst h; simpa using h'
  | k :: ks, _, _, _, h, h' => by
    simp only [Ints] at h
    obtain ⟨n, rest, rfl, h1, h2⟩ := h
    simp only [List.cons_append, Ints]
    exact ⟨n, _, rfl, h1, Ints.append h2 h'⟩

theorem Ints.length : ∀ {ks : List IntKind} {cs : List Value}, Ints ks cs → cs.length = ks.length
  | [], _, h => by simp only [Ints] at h; subst h; rfl
  | k :: ks, _, h => by
    simp only [Ints] at h
    obtain ⟨n, rest, rfl, _, h2⟩ := h
    simp [Ints.length h2]

/-- The kinds of a flat type of numbers. -/
def kdPs (r : TypeId → Option (List IntKind)) (P : Program) : List (Nat × TypeId) → Nat → Option (List IntKind)
  | [], _ => some []
  | (o, t) :: ps, at' => if o = at' then match r t, kdPs r P ps (at' + P.cellsOf t) with
    | some l, some l' => if l.length = P.cellsOf t then some (l ++ l') else none
    | _, _ => none else none

def kdF (P : Program) : Nat → TypeId → Option (List IntKind)
  | 0, _ => none
  | n + 1, t => match P.underlying t with
    | some (.int k) => some [k]
    | some (.struct fs) => match kdPs (kdF P n) P (fs.toList.map fun f => (f.offset, f.type)) 0 with
      | some l => if l.length = P.cellsOf t then some l else none
      | none => none
    | some (.array k e) => match kdPs (kdF P n) P ((List.range k).map fun i => (i * P.cellsOf e, e)) 0 with
      | some l => if l.length = P.cellsOf t then some l else none
      | none => none
    | _ => none

section
variable {P : Program} {w : World} {H : Type} {enc : TypeId × Value → H} {base : Nat} {spare : Nat → Bool} {held : Bool}

theorem kdPs_ok {f : TypeId → List Value → Option (DataW H × List MemPlace)} {r : TypeId → Option (List IntKind)} {cs : List Value} (hr : ∀ t vs x l, f t vs = some x → r t = some l → Ints l vs) :
    ∀ (ps : List (Nat × TypeId)) (xs : List (DataW H × List MemPlace)) (at' : Nat) (l : List IntKind), (ps.mapM fun x => f x.2 ((cs.drop x.1).take (P.cellsOf x.2))) = some xs → kdPs r P ps at' = some l →
      Ints l ((cs.drop at').take l.length)
  | [], xs, at', l, h, hl => by
    simp only [kdPs, Option.some.injEq] at hl
    subst hl
    simp [Ints]
  | (o, t) :: ps, xs, at', l, h, hl => by
    simp only [List.mapM_cons, Option.bind_eq_bind, Option.bind_eq_some_iff] at h
    obtain ⟨x, hx, ys, hys, h⟩ := h
    simp only [kdPs] at hl
    split at hl
    · rename_i ho
      subst ho
      split at hl
      · rename_i l1 l2 h1 h2
        split at hl
        · rename_i hlen
          simp only [Option.some.injEq] at hl
          subst hl
          have a1 := hr _ _ x _ hx h1
          have a2 := kdPs_ok hr ps ys _ l2 hys h2
          have e : ((cs.drop o).take (l1 ++ l2).length) = (cs.drop o).take (P.cellsOf t) ++ (cs.drop (o + P.cellsOf t)).take l2.length := by
            rw [List.length_append, hlen, List.take_add, List.drop_drop]
          rw [e]
          exact a1.append a2
        · cases hl
      · cases hl
    · cases hl

theorem kdF_ok : ∀ (n fuel : Nat) (t : TypeId) (cs : List Value) (x : DataW H × List MemPlace) (l : List IntKind),
    DataW.trod enc P w base spare held fuel t cs = some x → kdF P n t = some l → Ints l cs
  | 0, _, _, _, _, _, _, h => by simp [kdF] at h
  | n + 1, 0, _, _, _, _, h, _ => by simp [DataW.trod] at h
  | n + 1, fuel + 1, t, cs, x, l, h, hl => by
    have ih := kdF_ok n fuel
    unfold kdF at hl
    unfold DataW.trod at h
    split at hl
    · rename_i k hu
      rw [hu] at h
      simp only [Option.some.injEq] at hl
      subst hl
      split at h <;> simp_all
      obtain ⟨⟨h1, h2⟩, _⟩ := h
      subst h1
      simp [Ints, h2]
    · rename_i fs hu
      rw [hu] at h
      split at hl
      · rename_i l' hl'
        split at hl
        · rename_i hlen
          simp only [Option.some.injEq] at hl
          subst hl
          have key : ∃ xs, cs.length = P.cellsOf t ∧ (fs.toList.mapM fun f => DataW.trod enc P w base spare held fuel f.type ((cs.drop f.offset).take (P.cellsOf f.type))) = some xs := by
            split at h <;> simp_all
            obtain ⟨_, xs, h1, _⟩ := h
            exact ⟨xs, h1⟩
          obtain ⟨xs, hc, hx⟩ := key
          have := kdPs_ok (P := P) (f := fun t vs => DataW.trod enc P w base spare held fuel t vs) (r := kdF P n) (cs := cs) (fun t vs x l h1 h2 => ih t vs x l h1 h2) (fs.toList.map fun f => (f.offset, f.type)) xs 0 l'
            (by rw [List.mapM_map]; exact hx) hl'
          simpa [hlen, ← hc] using this
        · cases hl
      · cases hl
    · rename_i k e hu
      rw [hu] at h
      split at hl
      · rename_i l' hl'
        split at hl
        · rename_i hlen
          simp only [Option.some.injEq] at hl
          subst hl
          have key : ∃ xs, cs.length = P.cellsOf t ∧ ((List.range k).mapM fun i => DataW.trod enc P w base spare held fuel e ((cs.drop (i * P.cellsOf e)).take (P.cellsOf e))) = some xs := by
            split at h <;> simp_all
            obtain ⟨_, xs, h1, _⟩ := h
            exact ⟨xs, h1⟩
          obtain ⟨xs, hc, hx⟩ := key
          have := kdPs_ok (P := P) (f := fun t vs => DataW.trod enc P w base spare held fuel t vs) (r := kdF P n) (cs := cs) (fun t vs x l h1 h2 => ih t vs x l h1 h2) ((List.range k).map fun i => (i * P.cellsOf e, e)) xs 0 l'
            (by rw [List.mapM_map]; exact hx) hl'
          simpa [hlen, ← hc] using this
        · cases hl
      · cases hl
    · cases hl

/-- A struct of numbers. -/
theorem agg_of {t : TypeId} {v : Value} {d : DataW H} {p : List MemPlace} (h : DataW.Trod enc P w base spare held t v d p) {n : Nat} {k1 k2 : IntKind} {ks : List IntKind} (hk : kdF P n t = some (k1 :: k2 :: ks)) :
    ∃ cs : Array Value, v = .agg cs ∧ Ints (k1 :: k2 :: ks) cs.toList := by
  obtain ⟨fuel, h⟩ := h
  have hi := kdF_ok n fuel t _ _ _ h hk
  cases v with
  | agg cs => exact ⟨cs, rfl, hi⟩
  | _ =>
    have := hi.length
    simp [Value.cells] at this

end

theorem u32_of {x : Int} (h : (Lit.int .u32 x).wf = true) : ∃ b : BitVec 32, (.int .u32 x : Value) = .int .u32 (b.toNat : Int) := by
  simp only [Lit.wf, Bool.and_eq_true, decide_eq_true_eq] at h
  have h1 : IntKind.u32.min = 0 := by decide
  have h2 : IntKind.u32.max = 4294967295 := by decide
  rw [h1, h2] at h
  refine ⟨BitVec.ofNat 32 x.toNat, ?_⟩
  rw [BitVec.toNat_ofNat, Nat.mod_eq_of_lt (by omega)]
  congr 1
  omega

/-- A law whose run is found over the laid memory: the call answers true and turns nothing that was there. -/
theorem law_calls {P : Program} {A : Nat → Option AFn} (hA : AOk P A) {n f : Nat} {args : List AV} {bs : List ABlk} {m' : Mem} (h : run A n f args (memOf bs) = some (.bool true, m')) {ρ : Rho} {w : World} (hm : MR P ρ (memOf bs) w)
    {rargs : Array Value} (ha : VRs ρ args rargs.toList) (hle : bs.length ≤ 2 ^ depth) (ho : bs.all (fun b => !b.own) = true) : Calls P f rargs w fun e w' => e = .returned (.bool true) ∧ Below w.heap.size w w' := by
  refine (run_ok hA h hm ha).mono ?_
  rintro e w' ⟨r, ρ', rfl, hv, hs⟩
  simp only [VR] at hv
  subst hv
  exact ⟨rfl, hs.below (memOf_own hle ho)⟩
end
end AG
