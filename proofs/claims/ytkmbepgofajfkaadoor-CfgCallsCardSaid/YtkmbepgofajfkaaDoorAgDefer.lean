/- The abstract machine, part 20: a function that defers one call. -/
import Derived.Test.YtkmbepgofajfkaaDoorAgBack
import Derived.Defers
import Derived.ControlIn
namespace AG
noncomputable section
open Go Go.RowKit
structure DeferFn where
  n : Nat
  np : Nat
  res : List ARes
  A : AC
  pre : List AOper
  g : Nat
  post : List AOper
  C : AC
  fD : Nat
  D : AFn
def deferEv (F : DeferFn) (call : Caller) (args : List AV) (m : Mem) : Option (AV × Mem) :=
  if args.length = F.np then
   match codeEv call noAgain F.A { n := F.n, t := argsT 0 args, l := [], m } with
   | some (.norm, s0) =>
    match opsEv call F.pre s0 with
    | some s1 => match look s1.t F.g with
      | .fn it caps => if it = F.fD then
          match opsEv call F.post s1 with
          | some s2 => match codeEv call (lpEv call 1000) F.C s2 with
            | some (.norm, s3) | some (.ret, s3) => match fnEv call noAgain F.D caps s3.m with
              | some (_, m4) => match resEv { s3 with m := m4 } F.res with
                | some [v] => if v.isLoc then none else some (v, m4)
                | some l => if l.any AV.isLoc then none else some (.tup l, m4)
                | none => none
              | none => none
            | _ => none
          | none => none
        else none
      | _ => none
    | none => none
   | _ => none
  else none
def splitD : List Oper → Option (List Oper × Oper × List Oper)
  | [] => none
  | o :: r => if noDefer o then (splitD r).map fun (a, b, c) => (o :: a, b, c) else some ([], o, r)
theorem splitD_ok : ∀ {l a : List Oper} {o : Oper} {c : List Oper}, splitD l = some (a, o, c) → l = a ++ o :: c ∧ a.all noDefer = true
  | [], _, _, _, h => by simp [splitD] at h
  | x :: r, a, o, c, h => by
    simp only [splitD] at h
    split at h
    · rename_i hx
      simp only [Option.map_eq_some_iff, Prod.mk.injEq] at h
      obtain ⟨⟨a1, b1, c1⟩, h1, rfl, rfl, rfl⟩ := h
      obtain ⟨rfl, h2⟩ := splitD_ok h1
      exact ⟨rfl, by simp [hx, h2]⟩
    · cases h
      exact ⟨rfl, rfl⟩
def trDefer (P : Program) (H : Hints) (fD : Nat) (D : AFn) (f : Func) : Option DeferFn :=
  match f.body, trRes P f.results.toList with
  | some (.seq A (.seq (.region _ ops false) C)), some res => match splitD ops.toList with
    | some (pre, o, post) => match o.op with
      | .defer ⟨.value (.tmp g), ⟨[]⟩, _⟩ =>
        if f.name ≠ "runtime.NumGoroutine" ∧ f.params.size + f.nfree ≤ f.ntmps ∧ (o.dst.isNone && o.guard.isNone && post.all noDefer && plainC C && plainC A) = true then
          some { n := f.ntmps, np := f.params.size + f.nfree, res, A := trCode P H A, pre := pre.map (trOper P H ops), g, post := post.map (trOper P H ops), C := trCode P H C, fD, D }
        else none
      | _ => none
    | _ => none
  | _, _ => none
section
variable {P : Program} {call : Caller} {again : AC → St → Option (Ex × St)} {H : Hints} {n : Nat}
theorem fnD_ok (hc : CallOk P call) (hagain : AgainOk P again H n) {f : FuncId} {fn : Func} {af : AFn} (hf : P.funcs[f]? = some fn) (htr : trFn P H fn = some af) {args : List AV} {m m' : Mem} {v : AV}
    (he : fnEv call again af args m = some (v, m')) : (fn.name ≠ "runtime.NumGoroutine" ∧ fn.body.isSome = true) ∧ ∀ ρ (rargs : Array Value) w, MR P ρ m w → VRs ρ args rargs.toList →
      ∀ u, CallsD P f rargs u w fun e u' w' => u' = u ∧ ∃ r ρ', e = .returned r ∧ VR ρ' v r ∧ MStep P ρ m w ρ' m' w' := by
  unfold trFn at htr
  split at htr
  · rename_i c res hb hres
    split at htr
    · cases htr
    · rename_i hname
      simp only [not_or] at hname
      cases htr
      refine ⟨⟨hname.1, by rw [hb]; rfl⟩, fun ρ rargs w hm ha u => ?_⟩
      unfold fnEv at he
      dsimp only at he
      split at he
      case isFalse => cases he
      rename_i hnp
      try dsimp only at hnp he
      have hs := SR.start (P := P) (N := fn.ntmps) (fun _ => 0) hm ha (by omega)
      have hsz : rargs.size = args.length := by rw [← Array.length_toList, ha.length]
      refine callsD_of_wp hf hb ?_
      cases h1 : codeEv call again (trCode P H c) { n := fn.ntmps, t := argsT 0 args, l := [], m } with
      | none => simp [h1] at he
      | some q =>
        obtain ⟨x, s'⟩ := q
        rw [h1] at he
        have hx : x = .norm ∨ x = .ret := by
          cases x with
          | norm => exact .inl rfl
          | ret => exact .inr rfl
          | exit id => simp at he
        have he' : (match resEv s' res with
          | some [v] => if v.isLoc then none else some (v, s'.m)
          | some l => if l.any AV.isLoc then none else some (.tup l, s'.m)
          | none => none) = some (v, m') := by rcases hx with rfl | rfl <;> exact he
        have hm' : m' = s'.m := by
          split at he'
          · split at he'
            · cases he'
            · simp only [Option.some.injEq, Prod.mk.injEq] at he'; exact he'.2.symm
          · split at he'
            · cases he'
            · simp only [Option.some.injEq, Prod.mk.injEq] at he'; exact he'.2.symm
          · cases he'
        subst hm'
        refine code_ok hc hagain c _ x s' ρ (fun _ => 0) _ w _ hs h1 (fun e a' w' hxe hst => ?_)
        obtain ⟨ρ', lam', q1, q2, q3⟩ := hst
        obtain ⟨r, hr, hv⟩ := results_ok (fn := fn) q1 hres he'
        have hstep : MStep P ρ m w ρ' s'.m w' := by
          refine ⟨q1.mem, q2, ⟨q3.os, q3.tape, q3.output, q3.size, fun k hk hn => q3.keep k hk ?_, fun k hk => ?_, fun k hk => ?_, q3.drawn⟩⟩
          · rintro (ho | ⟨t, c, hc, _⟩)
            · exact hn ho
            · simp [lookL_nil] at hc
          · rcases q3.own k (.inl hk) with (h | ⟨t, c, hc, _⟩) | h
            · exact .inl h
            · simp [lookL_nil] at hc
            · exact .inr h
          · rcases q3.alive k (.inl hk) with (h | ⟨t, c, hc, _⟩) | h
            · exact .inl h
            · simp [lookL_nil] at hc
            · exact .inr h
        have hpost : a'.defers = [] ∧ ∃ v_1, (results fn a'.tmps).run P w' = .ok v_1 w' ∧ ∃ r ρ', Ending.returned v_1 = .returned r ∧ VR ρ' v r ∧ MStep P ρ m w ρ' s'.m w' :=
          ⟨q1.defers, r, hr, r, ρ', rfl, hv, hstep⟩
        rcases hx with rfl | rfl <;> cases e <;> simp only [ExM] at hxe <;> exact hpost
  · cases htr
theorem ops_in_app {ops : Array Oper} {r : Option Nat} {D : List Deferred} {rest : List Oper} {Q : Exit → Act → World → Prop} (hc : CallOk P call) : ∀ (l : List Oper) (s : St) (ρ : Rho) (lam : Nat → Nat) (a : Act) (w : World) (s' : St), l.all noDefer = true →
    SR P ρ lam s a w → opsEv call (l.map (trOper P H ops)) s = some s' → (∀ a' w', Stands P ρ lam s w s' a' w' → wpListIn (Rd r) n P ops Q rest { a' with defers := D } w') → wpListIn (Rd r) n P ops Q (l ++ rest) { a with defers := D } w
  | [], s, ρ, lam, a, w, s', _, hs, he, hk => by
    simp only [List.map_nil, opsEv, Option.some.injEq] at he
    subst he
    exact hk a w ⟨ρ, lam, hs, ρ.le_refl, Fr.refl _ _ _⟩
  | o :: l, s, ρ, lam, a, w, s', hl, hs, he, hk => by
    simp only [List.map_cons, opsEv] at he
    simp only [List.all_cons, Bool.and_eq_true] at hl
    split at he
    · rename_i s1 h1
      have h := oper_ok (P := P) (H := H) (ops := ops) (o := o) (K := fun a' w' => Stands P ρ lam s w s1 a' w') (Q := fun _ _ _ => False) (X := False) hc hs h1 (fun _ _ h => h)
      have go : ∀ a' w', Stands P ρ lam s w s1 a' w' → wpListIn (Rd r) n P ops Q (l ++ rest) { a' with defers := D } w' := fun a' w' hst => by
        obtain ⟨ρ1, lam1, q1, q2, q3⟩ := hst
        exact ops_in_app hc l s1 ρ1 lam1 a' w' s' hl.2 q1 he (fun a'' w'' h => hk a'' w'' (Stands.trans q2 q3 h))
      simp only [List.cons_append, wpListIn]
      split
      · rename_i hw
        rw [if_pos hw] at h
        rcases h with h | h
        · have hin := oper_in (r := r) (D := D) (n := n) (Q := Q) (noDefer_spec hl.1) (fun a w hst => by obtain ⟨_, _, q, _⟩ := hst; exact q.defers) h
          exact Oper.wpIn_mono (fun a' w' h => by obtain ⟨a0, h1, rfl⟩ := h; exact go a0 w' h1) hin
        · exact h.elim
      · rename_i hw
        rw [if_neg hw] at h
        refine ⟨fun _ _ => trivial, ?_⟩
        rw [put_defers]
        exact go _ _ h
    · cases he
end
theorem defer_ok {P : Program} {H HD : Hints} {fD f : Nat} {fn fnD : Func} {D : AFn} {F : DeferFn} (hf : P.funcs[f]? = some fn) (hD : P.funcs[fD]? = some fnD) (hDt : trFn P HD fnD = some D) (htr : trDefer P H fD D fn = some F) : PrimOk P f (deferEv F) := by
  intro call hc args m v m' he
  unfold trDefer at htr
  split at htr
  case h_2 => cases htr
  rename_i A id ops C res hb hres
  split at htr
  case h_2 => cases htr
  rename_i pre o post hsp
  split at htr
  case h_2 => cases htr
  rename_i g ts hop
  split at htr
  case isFalse => cases htr
  rename_i hcond
  obtain ⟨hname, hnp, hpl⟩ := hcond
  simp only [Bool.and_eq_true, Option.isNone_iff_eq_none] at hpl
  obtain ⟨⟨⟨⟨hdst, hgd⟩, hpost⟩, pC⟩, pA⟩ := hpl
  obtain ⟨hsp1, hpre⟩ := splitD_ok hsp
  obtain ⟨F, hF⟩ : ∃ F', F' = F := ⟨_, rfl⟩
  simp only [Option.some.injEq] at htr
  rw [← hF] at he
  rw [← hF] at htr
  have e1 : F.n = fn.ntmps := by rw [← htr]
  have e2 : F.np = fn.params.size + fn.nfree := by rw [← htr]
  have e3 : F.res = res := by rw [← htr]
  have e0 : F.A = trCode P H A := by rw [← htr]
  have e4 : F.pre = pre.map (trOper P H ops) := by rw [← htr]
  have e5 : F.g = g := by rw [← htr]
  have e6 : F.post = post.map (trOper P H ops) := by rw [← htr]
  have e7 : F.C = trCode P H C := by rw [← htr]
  have e8 : F.fD = fD := by rw [← htr]
  have e9 : F.D = D := by rw [← htr]
  refine ⟨⟨fn, hf, hname, by rw [hb]; rfl⟩, fun ρ rargs w hm ha => ?_⟩
  unfold deferEv at he
  split at he
  case isFalse => cases he
  rename_i hargs
  split at he
  case h_2 => cases he
  rename_i s0 hq0
  split at he
  case h_2 => cases he
  rename_i s1 hq1
  split at he
  case h_2 => cases he
  rename_i it caps hgv
  split at he
  case isFalse => cases he
  rename_i hit
  split at he
  case h_2 => cases he
  rename_i s2 hq2
  obtain ⟨x3, s3, hq3, hx3, he⟩ : ∃ x3 s3, codeEv call (lpEv call 1000) F.C s2 = some (x3, s3) ∧ (x3 = .norm ∨ x3 = .ret) ∧ (match fnEv call noAgain F.D caps s3.m with
      | some (_, m4) => match resEv { s3 with m := m4 } F.res with
        | some [v] => if v.isLoc then none else some (v, m4)
        | some l => if l.any AV.isLoc then none else some (.tup l, m4)
        | none => none
      | none => none) = some (v, m') := by
    split at he
    · rename_i s3 hq3; exact ⟨_, s3, hq3, .inl rfl, he⟩
    · rename_i s3 hq3; exact ⟨_, s3, hq3, .inr rfl, he⟩
    · cases he
  split at he
  case h_2 => cases he
  rename_i v4 m4 hq4
  have hm' : m' = m4 := by
    split at he
    · split at he
      · cases he
      · simp only [Option.some.injEq, Prod.mk.injEq] at he; exact he.2.symm
    · split at he
      · cases he
      · simp only [Option.some.injEq, Prod.mk.injEq] at he; exact he.2.symm
    · cases he
  subst hm'
  rw [e0, e1] at hq0
  rw [e4] at hq1
  rw [e6] at hq2
  rw [e7] at hq3
  rw [e9] at hq4
  rw [e3] at he
  rw [hit, e8] at hgv
  rw [e5] at hgv
  have hagain : AgainOk P noAgain HD 0 := fun c s x s' h => by simp [noAgain] at h
  have hDok := fnD_ok hc hagain hD hDt hq4
  obtain ⟨⟨hDn, hDb⟩, hDc⟩ := hDok
  obtain ⟨cdD, hDb'⟩ := Option.isSome_iff_exists.1 hDb
  have hs := SR.start (P := P) (N := fn.ntmps) (fun _ => 0) hm ha (by omega)
  refine calls_of_wp_defers hf hb ((wpIn_wide (n := 0)).1 ?_)
  change Code.wpIn (Rd none) 0 P _ _ _ _
  refine wpIn_seq (code_in (D := []) (again := noAgain) hc noAgain_in A _ .norm s0 ρ _ _ w _ pA hs hq0 (fun e a0 w0 hx hst0 => ?_))
  cases e <;> simp only [ExM] at hx
  simp only [Exit.then]
  obtain ⟨ρ0, lam0, hs0, le0, fr0⟩ := hst0
  refine wpIn_seq (wpIn_region_list ?_)
  rw [hsp1]
  refine ops_in_app (D := []) hc pre s0 ρ0 lam0 a0 w0 s1 hpre hs0 hq1 (fun a1 w1 hst1 => ?_)
  obtain ⟨ρ1, lam1, hs1, le1', fr1'⟩ := hst1
  have le1 := Rho.le_trans le0 le1'
  have fr1 := fr0.trans fr1'
  rw [Act.noDefers hs1.defers]
  have hgt := hs1.tmp g
  rw [hgv] at hgt
  simp only [VT, VR] at hgt
  obtain ⟨rs, hgv', hrs⟩ := hgt
  have hev : a1.eval (.tmp g) = .func (.func fD) #[] rs := hgv'
  have hw : Region.wanted o (yielded ops a1.tmps) = true := by simp [Region.wanted, hgd]
  simp only [wpListIn, hw, if_true]
  refine ⟨fun _ _ => trivial, ?_⟩
  have hsem : o.semAt (Rd none).round a1.eval = execOp a1.eval o := by
    unfold Oper.semAt
    rfl
  have hrun : (execOp a1.eval o).run P w1 = .ok (.defer { target := .fn (.func fD) rs, args := #[] }) w1 := by
    simp [execOp, hop, resolve, Deferred.ofValue, hev]
  rw [hsem, hrun, Oper.uponIn_defer, hdst]
  simp only [Act.put, hs1.defers]
  refine ops_in (D := [{ target := .fn (.func fD) rs, args := #[] }]) hc post s1 ρ1 lam1 a1 w1 s2 hpost hs1 hq2 (fun a2 w2 hst2 => ?_)
  obtain ⟨ρ2, lam2, hs2, le2, fr2⟩ := hst2
  simp only [Exit.then]
  refine code_in (D := [{ target := .fn (.func fD) rs, args := #[] }]) (again := lpEv call 1000) hc (lp_in hc 1000) C s2 x3 s3 ρ2 lam2 a2 w2 _ pC hs2 hq3 (fun e a3 w3 hx hst3 => ?_)
  obtain ⟨ρ3, lam3, hs3, le3, fr3⟩ := hst3
  have hrs3 : VRs ρ3 caps rs.toList := VRs.mono (Rho.le_trans le2 le3) _ _ hrs
  have hinv : (invoke (.fn (.func fD) rs) #[]).run P w3 = .ok (.enter fD rs) w3 := by
    simp [invoke, callFunc, hD, hDn, hDb']
  have hpost : Leaves P fn a3.tmps (fun e w' => ∃ r ρ', e = .returned r ∧ VR ρ' v r ∧ MStep P ρ m w ρ' m' w') [{ target := .fn (.func fD) rs, args := #[] }] .returning w3 := by
    refine leaves_cons (by simp) hinv ((hDc ρ3 rs w3 hs3.mem hrs3 .returning).mono ?_)
    rintro e u' w4 ⟨rfl, r4, ρ4, rfl, hv4, hm4⟩
    have hst4 := hs3.step hm4
    obtain ⟨r, hr, hvr⟩ := results_ok (fn := fn) hst4.1 hres he
    have hfr := Fr.mem_of ((fr1.trans fr2).trans (fr3.trans hst4.2)) rfl
    exact ⟨r, hr, r, ρ4, rfl, hvr, hst4.1.mem, Rho.le_trans (Rho.le_trans le1 le2) (Rho.le_trans le3 hm4.le), hfr⟩
  rcases hx3 with rfl | rfl <;> cases e <;> simp only [ExM] at hx <;> exact hpost
end
end AG
