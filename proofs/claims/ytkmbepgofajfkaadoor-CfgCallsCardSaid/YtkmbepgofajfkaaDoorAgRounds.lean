/- The abstract machine, part 18: code within a round of a loop over a function, and behind a deferred call. -/
import Derived.Test.YtkmbepgofajfkaaDoorAgFn
import Derived.CallsIn
import Derived.OrdersIn
import Derived.TacticsIn
import Derived.Defers
import Derived.RangeFuncNested
import Derived.LoopNIn
namespace AG
noncomputable section
open Go Go.RowKit
def Rd (r:Option Nat):Fence:={ Fence.wide with round:=r }
section
variable {P:Program} {o:Oper} {a:Act} {w w':World} {K:Act→World→Prop} {Q:Exit→Act→World→Prop} {r:Option Nat} {D:List Deferred} {n:Nat}
variable {ρ ρ':Rho} {lam:Nat→Nat} {s s':St} {call:Caller} {again:AC→St→Option (Ex×St)} {H:Hints}
theorem put_defers (a:Act) (d:Option Nat) (v:Value):({ a with defers:=D }:Act).put d v={ a.put d v with defers:=D }:=by
 unfold Act.put; split <;> rfl
theorem callsIn_rd {f:FuncId} {args:Array Value} {R:Ending→World→Prop} (h:Calls P f args w R):CallsIn (Rd r) n P f args w R:=by
 have h1:CallsIn Fence.wide n P f args w R:=callsIn_wide.2 h
 exact h1
theorem rowsIn_rd {row:String} {args:Array Value} {R:Value→World→Prop} (h:Rows P row args w R):RowsIn (Rd r) n P row args w R:=by
 intro c cs _
 obtain ⟨v,w',h1,h2⟩:=h c cs
 exact ⟨v,w',h1,stepsIn_wide.2 h2⟩
theorem oper_in (hnd:∀ c,o.op≠.defer c) (hK:∀ a w,K a w→a.defers=[]) (hh:o.wp P a w K (fun _ _ _=>False)):o.wpIn (Rd r) n P { a with defers:=D } w (fun a' w'=>∃ a0,K a0 w'∧a'={ a0 with defers:=D }) Q:=by
 refine ⟨fun _ _=>trivial,?_⟩
 rw [Oper.semAt_eq _ _ _ hnd]
 have he:(({ a with defers:=D }:Act).eval)=a.eval:=rfl
 rw [he]
 unfold Oper.wp at hh
 generalize (execOp a.eval o).run P w=res at*
 cases res with
 | ok nx w'=>
  cases nx <;> simp only [Oper.upon,Oper.uponIn] at hh ⊢
  case value v=>exact ⟨_,hh,put_defers _ _ _⟩
  case skip=>exact ⟨_,hh,put_defers _ _ _⟩
  case enter f args=>exact ⟨fun h=>by simp [Rd,Fence.wide] at h,callsIn_rd (Calls.mono hh (fun e w'' he=>by
   cases e with
   | returned v=>exact ⟨_,he,put_defers _ _ _⟩
   | panicked c=>exact he.elim
   | outgrown=>obtain ⟨_,_,h⟩:=he; exact h.elim))⟩
  case row row args=>exact ⟨fun h=>by simp [Rd,Fence.wide] at h,rowsIn_rd (Rows.mono hh (fun v w'' he=>⟨_,he,put_defers _ _ _⟩))⟩
  case «defer» d=>
   have:=hK _ _ hh
   unfold Act.put at this
   split at this <;> simp at this
  all_goals exact hh
 | halt x w'=>cases x <;> simp only [Oper.upon] at hh ⊢
def noDefer (o:Oper):Bool:=match o.op with
 | .defer _=>false
 | _=>true
theorem noDefer_spec (h:noDefer o=true):∀ c,o.op≠.defer c:=by
 intro c e
 unfold noDefer at h
 rw [e] at h
 cases h
theorem ops_in {ops:Array Oper} (hc:CallOk P call):∀ (l:List Oper) (s:St) (ρ:Rho) (lam:Nat→Nat) (a:Act) (w:World) (s':St),l.all noDefer=true→
  SR P ρ lam s a w→opsEv call (l.map (trOper P H ops)) s=some s'→(∀ a' w',Stands P ρ lam s w s' a' w'→Q .normal { a' with defers:=D } w')→wpListIn (Rd r) n P ops Q l { a with defers:=D } w
 | [],s,ρ,lam,a,w,s',_,hs,he,hk=>by
  simp only [List.map_nil,opsEv,Option.some.injEq] at he
  subst he
  exact hk a w ⟨ρ,lam,hs,ρ.le_refl,Fr.refl _ _ _⟩
 | o::l,s,ρ,lam,a,w,s',hl,hs,he,hk=>by
  simp only [List.map_cons,opsEv] at he
  simp only [List.all_cons,Bool.and_eq_true] at hl
  split at he
  ·rename_i s1 h1
   have h:=oper_ok (P:=P) (H:=H) (ops:=ops) (o:=o) (K:=fun a' w'=>Stands P ρ lam s w s1 a' w') (Q:=fun _ _ _=>False) (X:=False) hc hs h1 (fun _ _ h=>h)
   have go:∀ a' w',Stands P ρ lam s w s1 a' w'→wpListIn (Rd r) n P ops Q l { a' with defers:=D } w':=fun a' w' hst=>by
    obtain ⟨ρ1,lam1,q1,q2,q3⟩:=hst
    exact ops_in hc l s1 ρ1 lam1 a' w' s' hl.2 q1 he (fun a'' w'' h=>hk a'' w'' (Stands.trans q2 q3 h))
   simp only [wpListIn]
   split
   ·rename_i hw
    rw [if_pos hw] at h
    rcases h with h | h
    ·have hin:=oper_in (r:=r) (D:=D) (n:=n) (Q:=Q) (noDefer_spec hl.1) (fun a w hst=>by obtain ⟨_,_,q,_⟩:=hst; exact q.defers) h
     exact Oper.wpIn_mono (fun a' w' h=>by obtain ⟨a0,h1,rfl⟩:=h; exact go a0 w' h1) hin
    ·exact h.elim
   ·rename_i hw
    rw [if_neg hw] at h
    refine ⟨fun _ _=>trivial,?_⟩
    rw [put_defers]
    exact go _ _ h
  ·cases he
def plainC:Code→Bool
 | .skip | .exit _ | .ret=>true
 | .region _ ops false=>ops.toList.all noDefer
 | .seq a b=>plainC a&&plainC b
 | .cond _ a b=>plainC a&&plainC b
 | .block _ a=>plainC a
 | .loop a=>plainC a
 | _=>false
def AgainIn (P:Program) (again:AC→St→Option (Ex×St)) (H:Hints) (r:Option Nat) (D:List Deferred) (n k:Nat):Prop:=
 ∀ (c:Code) (s:St) (x:Ex) (s':St),plainC c=true→again (.loop (trCode P H c)) s=some (x,s')→∀ (ρ:Rho) (lam:Nat→Nat) (a:Act) (w:World) (Q:Exit→Act→World→Prop),SR P ρ lam s a w→
  (∀ e a' w',ExM x e→Stands P ρ lam s w s' a' w'→Q e { a' with defers:=D } w')→Code.roundsIn (Rd r) n P c Q k { a with defers:=D } w
theorem code_in {kk:Nat} (hc:CallOk P call) (hagain:AgainIn P again H r D n kk):∀ (c:Code) (s:St) (x:Ex) (s':St) (ρ:Rho) (lam:Nat→Nat) (a:Act) (w:World) (Q:Exit→Act→World→Prop),plainC c=true→SR P ρ lam s a w→
  codeEv call again (trCode P H c) s=some (x,s')→(∀ e a' w',ExM x e→Stands P ρ lam s w s' a' w'→Q e { a' with defers:=D } w')→c.wpIn (Rd r) n P Q { a with defers:=D } w:=by
 intro c
 induction c with
 | skip=>
  intro s x s' ρ lam a w Q _ hs he hk
  simp only [trCode,codeEv,Option.some.injEq,Prod.mk.injEq] at he
  obtain ⟨rfl,rfl⟩:=he
  exact wpIn_skip (hk _ _ _ trivial ⟨ρ,lam,hs,ρ.le_refl,Fr.refl _ _ _⟩)
 | exit id=>
  intro s x s' ρ lam a w Q _ hs he hk
  simp only [trCode,codeEv,Option.some.injEq,Prod.mk.injEq] at he
  obtain ⟨rfl,rfl⟩:=he
  exact wpIn_exit (hk _ _ _ rfl ⟨ρ,lam,hs,ρ.le_refl,Fr.refl _ _ _⟩)
 | ret=>
  intro s x s' ρ lam a w Q _ hs he hk
  simp only [trCode,codeEv,Option.some.injEq,Prod.mk.injEq] at he
  obtain ⟨rfl,rfl⟩:=he
  exact wpIn_ret (hk _ _ _ trivial ⟨ρ,lam,hs,ρ.le_refl,Fr.refl _ _ _⟩)
 | region id ops draw=>
  intro s x s' ρ lam a w Q hp hs he hk
  cases draw with
  | true=>simp [plainC] at hp
  | false=>
   have dreg:∀ {s:St},SR P ρ lam s a w→codeEv call again (.reg (ops.toList.map (trOper P H ops))) s=some (x,s')→(∀ e a' w',ExM x e→Stands P ρ lam s w s' a' w'→Q e { a' with defers:=D } w')→(Code.region id ops false).wpIn (Rd r) n P Q { a with defers:=D } w:=by
    intro s hs he hk
    simp only [codeEv] at he
    split at he
    ·rename_i s1 h1
     simp only [Option.some.injEq,Prod.mk.injEq] at he
     obtain ⟨rfl,rfl⟩:=he
     exact wpIn_region_list (ops_in hc ops.toList s ρ lam a w _ hp hs h1 (fun a' w' h=>hk .normal a' w' trivial h))
    ·cases he
   simp only [trCode,keepOf] at he
   split at he
   ·rename_i q ts ls hq
    simp only [codeEv] at he
    exact dreg (hs.keep ts ls) (by simpa only [codeEv] using he) (fun e a' w' h1 h2=>hk e a' w' h1 (SR.kept_weaken h2))
   ·exact dreg hs he hk
 | seq c1 c2 ih1 ih2=>
  intro s x s' ρ lam a w Q hp hs he hk
  simp only [plainC,Bool.and_eq_true] at hp
  simp only [trCode,codeEv] at he
  cases h1:codeEv call again (trCode P H c1) s with
  | none=>simp [h1] at he
  | some q=>
   obtain ⟨x1,s1⟩:=q
   rw [h1] at he
   refine wpIn_seq (ih1 s x1 s1 ρ lam a w _ hp.1 hs h1 (fun e a' w' hx hst=>?_))
   cases x1 with
   | norm=>
    cases e <;> simp only [ExM] at hx
    simp only [Exit.then]
    obtain ⟨ρ1,lam1,q1,q2,q3⟩:=hst
    exact ih2 s1 x s' ρ1 lam1 a' w' Q hp.2 q1 he (fun e a'' w'' hx' hst'=>hk e a'' w'' hx' (Stands.trans q2 q3 hst'))
   | exit id=>
    simp only [Option.some.injEq,Prod.mk.injEq] at he
    obtain ⟨rfl,rfl⟩:=he
    cases e <;> simp only [ExM] at hx
    subst hx
    exact hk _ _ _ rfl hst
   | ret=>
    simp only [Option.some.injEq,Prod.mk.injEq] at he
    obtain ⟨rfl,rfl⟩:=he
    cases e <;> simp only [ExM] at hx
    exact hk _ _ _ trivial hst
 | cond c0 c1 c2 ih1 ih2=>
  intro s x s' ρ lam a w Q hp hs he hk
  simp only [plainC,Bool.and_eq_true] at hp
  simp only [trCode] at he
  split at he
  ·rename_i c' hc'
   simp only [codeEv] at he
   split at he
   ·rename_i t ht
    have hev:=hs.opd hc'
    rw [ht] at hev
    simp only [VT,VR] at hev
    refine wpIn_cond (t:=t) hev ?_
    cases t
    ·exact ih2 s x s' ρ lam a w Q hp.2 hs (by simpa using he) hk
    ·exact ih1 s x s' ρ lam a w Q hp.1 hs (by simpa using he) hk
   ·cases he
  ·simp [codeEv] at he
 | block id c1 ih1=>
  intro s x s' ρ lam a w Q hp hs he hk
  simp only [plainC] at hp
  simp only [trCode,codeEv] at he
  cases h1:codeEv call again (trCode P H c1) s with
  | none=>simp [h1] at he
  | some q=>
   obtain ⟨x1,s1⟩:=q
   rw [h1] at he
   refine wpIn_block (ih1 s x1 s1 ρ lam a w _ hp hs h1 (fun e a' w' hx hst=>?_))
   cases x1 with
   | norm=>
    simp only [Option.some.injEq,Prod.mk.injEq] at he
    obtain ⟨rfl,rfl⟩:=he
    cases e <;> simp only [ExM] at hx
    exact hk _ _ _ trivial hst
   | exit id'=>
    cases e <;> simp only [ExM] at hx
    subst hx
    simp only [Exit.inBlock]
    dsimp only at he
    split at he
    ·rename_i hid
     simp only [Option.some.injEq,Prod.mk.injEq] at he
     obtain ⟨rfl,rfl⟩:=he
     first
      | (rw [if_pos hid]; exact hk _ _ _ trivial hst)
      | (rw [if_pos hid.symm]; exact hk _ _ _ trivial hst)
    ·rename_i hid
     simp only [Option.some.injEq,Prod.mk.injEq] at he
     obtain ⟨rfl,rfl⟩:=he
     first
      | (rw [if_neg hid]; exact hk _ _ _ rfl hst)
      | (rw [if_neg (fun e=>hid e.symm)]; exact hk _ _ _ rfl hst)
   | ret=>
    simp only [Option.some.injEq,Prod.mk.injEq] at he
    obtain ⟨rfl,rfl⟩:=he
    cases e <;> simp only [ExM] at hx
    exact hk _ _ _ trivial hst
 | loop c1 ih1=>
  intro s x s' ρ lam a w Q hp hs he hk
  simp only [plainC] at hp
  refine wpIn_loop_rounds (kk+1) ?_
  rw [roundsIn_succ]
  simp only [trCode,codeEv] at he
  cases h1:codeEv call again (trCode P H c1) s with
  | none=>simp [h1] at he
  | some q=>
   obtain ⟨x1,s1⟩:=q
   rw [h1] at he
   refine ih1 s x1 s1 ρ lam a w _ hp hs h1 (fun e a' w' hx hst=>?_)
   cases x1 with
   | norm=>
    cases e <;> simp only [ExM] at hx
    simp only [Exit.then]
    obtain ⟨ρ1,lam1,q1,q2,q3⟩:=hst
    exact hagain c1 s1 x s' hp he ρ1 lam1 a' w' Q q1 (fun e a'' w'' hx' hst'=>hk e a'' w'' hx' (Stands.trans q2 q3 hst'))
   | exit id=>
    simp only [Option.some.injEq,Prod.mk.injEq] at he
    obtain ⟨rfl,rfl⟩:=he
    cases e <;> simp only [ExM] at hx
    subst hx
    exact hk _ _ _ rfl hst
   | ret=>
    simp only [Option.some.injEq,Prod.mk.injEq] at he
    obtain ⟨rfl,rfl⟩:=he
    cases e <;> simp only [ExM] at hx
    exact hk _ _ _ trivial hst
 | _=>
  intro s x s' ρ lam a w Q hp hs he hk
  simp [plainC] at hp
theorem again_in {k:Nat} (hc:CallOk P call) (hagain:AgainIn P again H r D n k):AgainIn P (codeEv call again) H r D n (k+1):=by
 intro c s x s' hp he ρ lam a w Q hs hk
 rw [roundsIn_succ]
 simp only [codeEv] at he
 cases h1:codeEv call again (trCode P H c) s with
 | none=>simp [h1] at he
 | some q=>
  obtain ⟨x1,s1⟩:=q
  rw [h1] at he
  refine code_in hc hagain c s x1 s1 ρ lam a w _ hp hs h1 (fun e a' w' hx hst=>?_)
  cases x1 with
  | norm=>
   cases e <;> simp only [ExM] at hx
   simp only [Exit.then]
   obtain ⟨ρ1,lam1,q1,q2,q3⟩:=hst
   exact hagain c s1 x s' hp he ρ1 lam1 a' w' Q q1 (fun e a'' w'' hx' hst'=>hk e a'' w'' hx' (Stands.trans q2 q3 hst'))
  | exit id=>
   simp only [Option.some.injEq,Prod.mk.injEq] at he
   obtain ⟨rfl,rfl⟩:=he
   cases e <;> simp only [ExM] at hx
   subst hx
   exact hk _ _ _ rfl hst
  | ret=>
   simp only [Option.some.injEq,Prod.mk.injEq] at he
   obtain ⟨rfl,rfl⟩:=he
   cases e <;> simp only [ExM] at hx
   exact hk _ _ _ trivial hst
def lpEv (call:Caller):Nat→AC→St→Option (Ex×St)
 | 0=>fun _ _=>none
 | k+1=>fun c s=>codeEv call (lpEv call k) c s
theorem lp_in (hc:CallOk P call):∀ k,AgainIn P (lpEv call k) H r D n k
 | 0=>fun c s x s' _ h=>by simp [lpEv] at h
 | k+1=>again_in hc (lp_in hc k)
end
end
end AG
