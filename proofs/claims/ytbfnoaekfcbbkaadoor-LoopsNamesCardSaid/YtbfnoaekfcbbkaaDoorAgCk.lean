/- The abstract machine, part 22: a closed run cut into pieces, each evaluated by itself. -/
import Derived.Test.YtbfnoaekfcbbkaaDoorAgFast
namespace AG
noncomputable section
open Go

def eqE : List (AV × AV × Nat) → List (AV × AV × Nat) → Bool
  | [], [] => true
  | (a, b, n) :: r, (a', b', n') :: q => eqV 8 a a' && eqV 8 b b' && Nat.beq n n' && eqE r q
  | _, _ => false

def eqB : ABlk → ABlk → Bool
  | .cells c o, .cells c' o' => eqL (eqV 8) c c' && (o == o')
  | .map es k, .map es' k' => eqE es es' && Nat.beq k k'
  | .siter s p, .siter s' p' => decide (s = s') && Nat.beq p p'
  | .dead, .dead => true
  | _, _ => false

def eqO : Option ABlk → Option ABlk → Bool
  | none, none => true
  | some a, some b => eqB a b
  | _, _ => false

def eqT (a b : T) : Bool :=
  T.rec (motive := fun _ => T → Bool) (fun b => T.rec true (fun _ _ _ _ _ => false) b)
    (fun v _ _ ihl ihr b => T.rec false (fun v' l' r' _ _ => Bool.rec false (Bool.rec false (ihr r') (ihl l')) (eqO v v')) b) a b

def eqTy : List (Nat × Nat × Bool) → List (Nat × Nat × Bool) → Bool
  | [], [] => true
  | (a, b, n) :: r, (a', b', n') :: q => Nat.beq a a' && Nat.beq b b' && (n == n') && eqTy r q
  | _, _ => false

def eqM (a b : Mem) : Bool := Nat.beq a.n b.n && eqT a.t b.t && eqTy a.ty b.ty

def eqTs : List (Nat × AV) → List (Nat × AV) → Bool
  | [], [] => true
  | (a, v) :: r, (a', v') :: q => Nat.beq a a' && eqV 8 v v' && eqTs r q
  | _, _ => false

def eqLs : List (Nat × List AV) → List (Nat × List AV) → Bool
  | [], [] => true
  | (a, v) :: r, (a', v') :: q => Nat.beq a a' && eqL (eqV 8) v v' && eqLs r q
  | _, _ => false

def eqSt (a b : St) : Bool := Nat.beq a.n b.n && eqTs a.t b.t && eqLs a.l b.l && eqM a.m b.m

def eqAcc : List Acc → List Acc → Bool
  | [], [] => true
  | .rw x k b :: r, .rw x' k' b' :: q => eqV 8 x x' && Nat.beq k k' && (b == b') && eqAcc r q
  | .eff m n :: r, .eff m' n' :: q => eqM m m' && eqM n n' && eqAcc r q
  | _, _ => false

def stOk (r : Option St) (s : St) : Bool := Option.rec false (fun x => eqSt x s) r
def dOk (r : Option (St × List Acc)) (s : St) (g : List Acc) : Bool := Option.rec false (fun x => Bool.rec false (eqAcc x.2 g) (eqSt x.1 s)) r

theorem nbq {a b : Nat} (h : Nat.beq a b = true) : a = b := Nat.eq_of_beq_eq_true h

theorem eqE_spec : ∀ {l q : List (AV × AV × Nat)}, eqE l q = true → l = q
  | [], [], _ => rfl
  | (a, b, n) :: r, (a', b', n') :: q, h => by
    simp only [eqE, Bool.and_eq_true] at h
    obtain ⟨⟨⟨h1, h2⟩, h3⟩, h4⟩ := h
    rw [eqV_spec _ _ _ h1, eqV_spec _ _ _ h2, nbq h3, eqE_spec h4]
  | [], _ :: _, h => by simp [eqE] at h
  | _ :: _, [], h => by simp [eqE] at h

theorem eqB_spec {a b : ABlk} (h : eqB a b = true) : a = b := by
  unfold eqB at h
  split at h <;> (try simp only [Bool.and_eq_true, beq_iff_eq, decide_eq_true_eq] at h)
  · rw [eqL_spec (eqV_spec _) h.1, h.2]
  · rw [eqE_spec h.1, nbq h.2]
  · rw [h.1, nbq h.2]
  · rfl
  · cases h

theorem eqO_spec {a b : Option ABlk} (h : eqO a b = true) : a = b := by
  unfold eqO at h
  split at h
  · rfl
  · rw [eqB_spec h]
  · cases h

theorem eqT_spec : ∀ {a b : T}, eqT a b = true → a = b := by
  intro a
  induction a with
  | nil =>
    intro b h
    cases b with
    | nil => rfl
    | node v l r => exact absurd (show false = true from h) (by simp)
  | node v l r ihl ihr =>
    intro b h
    cases b with
    | nil => exact absurd (show false = true from h) (by simp)
    | node v' l' r' =>
      have h' : (Bool.rec false (Bool.rec false (eqT r r') (eqT l l')) (eqO v v') : Bool) = true := h
      cases h1 : eqO v v' with
      | false => rw [h1] at h'; cases h'
      | true =>
        rw [h1] at h'
        cases h2 : eqT l l' with
        | false => rw [h2] at h'; cases h'
        | true =>
          rw [h2] at h'
          rw [eqO_spec h1, ihl h2, ihr h']

theorem eqTy_spec : ∀ {l q : List (Nat × Nat × Bool)}, eqTy l q = true → l = q
  | [], [], _ => rfl
  | (a, b, n) :: r, (a', b', n') :: q, h => by
    simp only [eqTy, Bool.and_eq_true, beq_iff_eq] at h
    obtain ⟨⟨⟨h1, h2⟩, h3⟩, h4⟩ := h
    rw [nbq h1, nbq h2, h3, eqTy_spec h4]
  | [], _ :: _, h => by simp [eqTy] at h
  | _ :: _, [], h => by simp [eqTy] at h

theorem eqM_spec {a b : Mem} (h : eqM a b = true) : a = b := by
  obtain ⟨n, t, ty⟩ := a
  obtain ⟨n', t', ty'⟩ := b
  simp only [eqM, Bool.and_eq_true] at h
  obtain ⟨⟨h1, h2⟩, h3⟩ := h
  rw [nbq h1, eqT_spec h2, eqTy_spec h3]

theorem eqTs_spec : ∀ {l q : List (Nat × AV)}, eqTs l q = true → l = q
  | [], [], _ => rfl
  | (a, v) :: r, (a', v') :: q, h => by
    simp only [eqTs, Bool.and_eq_true] at h
    obtain ⟨⟨h1, h2⟩, h3⟩ := h
    rw [nbq h1, eqV_spec _ _ _ h2, eqTs_spec h3]
  | [], _ :: _, h => by simp [eqTs] at h
  | _ :: _, [], h => by simp [eqTs] at h

theorem eqLs_spec : ∀ {l q : List (Nat × List AV)}, eqLs l q = true → l = q
  | [], [], _ => rfl
  | (a, v) :: r, (a', v') :: q, h => by
    simp only [eqLs, Bool.and_eq_true] at h
    obtain ⟨⟨h1, h2⟩, h3⟩ := h
    rw [nbq h1, eqL_spec (eqV_spec _) h2, eqLs_spec h3]
  | [], _ :: _, h => by simp [eqLs] at h
  | _ :: _, [], h => by simp [eqLs] at h

theorem eqSt_spec {a b : St} (h : eqSt a b = true) : a = b := by
  obtain ⟨n, t, l, m⟩ := a
  obtain ⟨n', t', l', m'⟩ := b
  simp only [eqSt, Bool.and_eq_true] at h
  obtain ⟨⟨⟨h1, h2⟩, h3⟩, h4⟩ := h
  rw [nbq h1, eqTs_spec h2, eqLs_spec h3, eqM_spec h4]

theorem eqAcc_spec : ∀ {l q : List Acc}, eqAcc l q = true → l = q
  | [], [], _ => rfl
  | .rw x k b :: r, .rw x' k' b' :: q, h => by
    simp only [eqAcc, Bool.and_eq_true, beq_iff_eq] at h
    obtain ⟨⟨⟨h1, h2⟩, h3⟩, h4⟩ := h
    rw [eqV_spec _ _ _ h1, nbq h2, h3, eqAcc_spec h4]
  | .eff m n :: r, .eff m' n' :: q, h => by
    simp only [eqAcc, Bool.and_eq_true] at h
    obtain ⟨⟨h1, h2⟩, h4⟩ := h
    rw [eqM_spec h1, eqM_spec h2, eqAcc_spec h4]
  | [], _ :: _, h => by simp [eqAcc] at h
  | .rw _ _ _ :: _, [], h => by simp [eqAcc] at h
  | .eff _ _ :: _, [], h => by simp [eqAcc] at h
  | .rw _ _ _ :: _, .eff _ _ :: _, h => by simp [eqAcc] at h
  | .eff _ _ :: _, .rw _ _ _ :: _, h => by simp [eqAcc] at h

theorem stOk_spec {r : Option St} {s : St} (h : stOk r s = true) : r = some s := by
  cases r with
  | none => cases h
  | some x => rw [eqSt_spec (show eqSt x s = true from h)]

theorem dOk_spec {r : Option (St × List Acc)} {s : St} {g : List Acc} (h : dOk r s g = true) : r = some (s, g) := by
  cases r with
  | none => cases h
  | some x =>
    have h' : (Bool.rec false (eqAcc x.2 g) (eqSt x.1 s) : Bool) = true := h
    cases h1 : eqSt x.1 s with
    | false => rw [h1] at h'; cases h'
    | true =>
      rw [h1] at h'
      have e1 := eqSt_spec h1
      have e2 := eqAcc_spec h'
      obtain ⟨x1, x2⟩ := x
      dsimp only at e1 e2
      rw [e1, e2]

/-- Some blocks turned, some more, what is known of their types. -/
def addM (m : Mem) (sets : List (Nat × ABlk)) (new : List ABlk) (ty : List (Nat × Nat × Bool)) : Mem :=
  { new.foldl Mem.push (sets.foldl (fun m p => m.set p.1 p.2) m) with ty := ty ++ m.ty }

section
variable {call : Caller} {again : AC → St → Option (Ex × St)}

theorem opsCut {l1 l2 : List AOper} {s s1 s2 : St} (h1 : stOk (opsF call l1 s) s1 = true) (h2 : opsEv call l2 s1 = some s2) : opsEv call (l1 ++ l2) s = some s2 := by
  have h := stOk_spec h1
  rw [opsF_eq] at h
  clear h1
  induction l1 generalizing s with
  | nil => simp only [opsEv, Option.some.injEq] at h; subst h; exact h2
  | cons o r ih =>
    simp only [List.cons_append, opsEv] at h ⊢
    cases ho : oneEv call o s with
    | none => rw [ho] at h; cases h
    | some s' => rw [ho] at h; exact ih h

theorem dOpsCut {l1 l2 : List (Bool × AOper × Bool)} {s s1 s2 : St} {g1 g2 : List Acc} (h1 : dOk (dOpsF call l1 s) s1 g1 = true) (h2 : dOpsEv call l2 s1 = some (s2, g2)) : dOpsEv call (l1 ++ l2) s = some (s2, g1 ++ g2) := by
  have h := dOk_spec h1
  rw [dOpsF_eq] at h
  clear h1
  induction l1 generalizing s g1 with
  | nil => simp only [dOpsEv, Option.some.injEq, Prod.mk.injEq] at h; obtain ⟨rfl, rfl⟩ := h; exact h2
  | cons o r ih =>
    simp only [List.cons_append, dOpsEv] at h ⊢
    cases ho : dOneEv call o.2 s with
    | none => rw [ho] at h; cases h
    | some s' =>
      rw [ho] at h
      dsimp only at h ⊢
      cases hr : dOpsEv call r s' with
      | none => rw [hr] at h; cases h
      | some q =>
        rw [hr] at h
        simp only [Option.some.injEq, Prod.mk.injEq] at h
        obtain ⟨rfl, rfl⟩ := h
        rw [ih hr]
        simp

theorem opsEnd {s : St} : opsEv call [] s = some s := rfl
theorem dOpsEnd {s : St} : dOpsEv call [] s = some (s, []) := rfl

theorem regCut {l : List AOper} {s s' : St} (h : opsEv call l s = some s') : codeEv call again (.reg l) s = some (.norm, s') := by
  simp only [codeEv, h]

theorem dregCut {l : List (Bool × AOper × Bool)} {s s' : St} {g : List Acc} (h : dOpsEv call l s = some (s', g)) (hg : logOk g = true) : codeEv call again (.dreg l) s = some (.norm, s') := by
  simp only [codeEv, h, hg, if_true]

theorem seqCut {a b : AC} {s s1 : St} {r : Ex × St} (h1 : codeEv call again a s = some (.norm, s1)) (h2 : codeEv call again b s1 = some r) : codeEv call again (.seq a b) s = some r := by
  simp only [codeEv, h1, h2]

theorem retCut {s : St} : codeEv call again .ret s = some (.ret, s) := rfl

theorem fnCut {af : AFn} {args : List AV} {m : Mem} {s : St} {x : Ex} {v : AV} (hp : af.prim = none) (hn : args.length = af.np) (h : codeEv call again af.body { n := af.n, t := argsT 0 args, l := [], m } = some (x, s)) (hx : x = .ret ∨ x = .norm) (hr : resEv s af.res = some [v]) (hl : v.isLoc = false) : fnEv call again af args m = some (v, s.m) := by
  unfold fnEv
  rw [hp]
  dsimp only
  rw [if_pos hn, h]
  rcases hx with rfl | rfl
  · simp only [hr, hl, Bool.false_eq_true, if_false]
  · simp only [hr, hl, Bool.false_eq_true, if_false]

theorem opsCutE {l1 l2 : List AOper} {s s1 s2 : St} (h : opsEv call l1 s = some s1) (h2 : opsEv call l2 s1 = some s2) : opsEv call (l1 ++ l2) s = some s2 := by
  induction l1 generalizing s with
  | nil => simp only [opsEv, Option.some.injEq] at h; subst h; exact h2
  | cons o r ih =>
    simp only [List.cons_append, opsEv] at h ⊢
    cases ho : oneEv call o s with
    | none => rw [ho] at h; cases h
    | some s' => rw [ho] at h; exact ih h

theorem dOpsCutE {l1 l2 : List (Bool × AOper × Bool)} {s s1 s2 : St} {g1 g2 : List Acc} (h : dOpsEv call l1 s = some (s1, g1)) (h2 : dOpsEv call l2 s1 = some (s2, g2)) : dOpsEv call (l1 ++ l2) s = some (s2, g1 ++ g2) := by
  induction l1 generalizing s g1 with
  | nil => simp only [dOpsEv, Option.some.injEq, Prod.mk.injEq] at h; obtain ⟨rfl, rfl⟩ := h; exact h2
  | cons o r ih =>
    simp only [List.cons_append, dOpsEv] at h ⊢
    cases ho : dOneEv call o.2 s with
    | none => rw [ho] at h; cases h
    | some s' =>
      rw [ho] at h
      dsimp only at h ⊢
      cases hr : dOpsEv call r s' with
      | none => rw [hr] at h; cases h
      | some q =>
        rw [hr] at h
        simp only [Option.some.injEq, Prod.mk.injEq] at h
        obtain ⟨rfl, rfl⟩ := h
        rw [ih hr]
        simp

/-- A call whose run is known. -/
theorem callCut {g : Nat} {as : List Opd} {d : Option Nat} {s s' : St} {v : AV} {m' : Mem} (h : call g (as.map s.opd) s.m = some (v, m')) (hl : (as.map s.opd).any AV.isLoc = false) (hp : ({ s with m := m' } : St).put d v = some s') :
    opsEv call [⟨d, .call g as, none⟩] s = some s' := by
  simp only [opsEv, oneEv, guardEv, opEv, callWith, hl, Bool.false_eq_true, if_false, h, hp]

theorem dCallCut {g : Nat} {as : List Opd} {d : Option Nat} {s s' : St} {v : AV} {m' : Mem} {b : Bool} (h : call g (as.map s.opd) s.m = some (v, m')) (hl : (as.map s.opd).any AV.isLoc = false) (hp : ({ s with m := m' } : St).put d v = some s') :
    dOpsEv call [(b, ⟨d, .call g as, none⟩, false)] s = some (s', if b then [.eff s.m s'.m] else []) := by
  cases b <;> simp [dOpsEv, dOneEv, guardEv, opEv, callWith, hl, h, hp, accOf, AOp.kd]
end
end
end AG
