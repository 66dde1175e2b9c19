/- The abstract machine, part 5: its operations are the model's. -/
import Derived.Test.YtkmbepgofajfkaaDoorAgMemL
import Derived.Laws.Shifts
namespace AG
noncomputable section
open Go Go.RowKit
section
variable {P:Program} {o:Oper} {a:Act} {w w':World} {next:Act→World→Prop} {Q:Exit→Act→World→Prop}
theorem wp_value {r:Value} (h:(execOp a.eval o).run P w=.ok (.value r) w') (hk:next (a.put o.dst r) w'):o.wp P a w next Q:=by
 unfold Oper.wp; rw [h]; exact hk
theorem wp_skip' (h:(execOp a.eval o).run P w=.ok .skip w') (hk:next (a.put o.dst undef) w'):o.wp P a w next Q:=by
 unfold Oper.wp; rw [h]; exact hk
def After (P:Program) (ρ:Rho) (lam:Nat→Nat) (s:St) (a:Act) (w:World) (v:AV) (s':St) (dst:Option Tmp) (next:Act→World→Prop):Prop:=
 ∀ ρ' lam' r w',VT lam' ρ' v r→(∀ t o,v=.loc t o→∃ c,lookL s'.l t=some c)→SR P ρ' lam' s' a w'→ρ.le ρ'→
  Fr (OwnS ρ lam s) (AliveS ρ lam s) w (OwnS ρ' lam' s') (AliveS ρ' lam' s') w'→next (a.put dst r) w'
variable {ρ ρ':Rho} {lam:Nat→Nat} {s:St} {v:AV} {r:Value}
theorem ok_pure (hs:SR P ρ lam s a w) (hk:After P ρ lam s a w v s o.dst next) (hr:(execOp a.eval o).run P w=.ok (.value r) w)
  (hv:VT lam ρ v r) (hl:∀ t o,v=.loc t o→∃ c,lookL s.l t=some c):o.wp P a w next Q:=
 wp_value hr (hk ρ lam r w hv hl hs ρ.le_refl (Fr.refl _ _ _))
theorem VR.noloc {ρ:Rho} {v:AV} {r:Value} (h:VR ρ v r):∀ t o,v≠.loc t o:=by
 intro t o e; subst e; simp [VR] at h
theorem ok_plain (hs:SR P ρ lam s a w) (hk:After P ρ lam s a w v s o.dst next) (hr:(execOp a.eval o).run P w=.ok (.value r) w)
  (hv:VR ρ v r):o.wp P a w next Q:=
 ok_pure hs hk hr (VT.of_vr hv) (fun t o e=>absurd e (hv.noloc t o))
theorem ok_step {m':Mem} (hs:SR P ρ lam s a w) (hk:After P ρ lam s a w v { s with m:=m' } o.dst next) (hr:(execOp a.eval o).run P w=.ok (.value r) w')
  (hm:MStep P ρ s.m w ρ' m' w') (hv:VR ρ' v r):o.wp P a w next Q:=
 wp_value hr (hk ρ' lam r w' (VT.of_vr hv) (fun t o e=>absurd e (hv.noloc t o)) (hs.step hm).1 hm.le (hs.step hm).2)
theorem ok_skip {m':Mem} (hs:SR P ρ lam s a w) (hk:After P ρ lam s a w .unk { s with m:=m' } o.dst next) (hr:(execOp a.eval o).run P w=.ok .skip w')
  (hm:MStep P ρ s.m w ρ' m' w'):o.wp P a w next Q:=
 wp_skip' hr (hk ρ' lam undef w' (by simp [VT,VR]) (fun t o e=>by cases e) (hs.step hm).1 hm.le (hs.step hm).2)
theorem ok_new {p:Option Nat} {cs:List AV} {s':St} {rc:Array Value} {e:TypeId} (hs:SR P ρ lam s a w) (he:s.new p cs=some (v,s')) (hk:After P ρ lam s a w v s' o.dst next)
  (hr:(execOp a.eval o).run P w=.ok (.value (.pointer (some ⟨w.heap.size,0,none⟩))) (w.alloc (.cells rc e))) (hc:VRs ρ cs rc.toList):o.wp P a w next Q:=by
 cases p with
 | none=>
  simp only [St.new] at he
  split at he
  ·cases he
  ·rename_i hf
   simp only [Option.some.injEq,Prod.mk.injEq] at he
   obtain ⟨rfl,rfl⟩:=he
   have hlen:rc.toList.length=cs.length:=hc.length
   refine ok_step hs hk hr (MStep.new (n:=rc.size) (t:=e) hs.mem (by simpa using hf) ?_) ?_
   ·refine ⟨rc,e,(0,0),heap_alloc_new w _,?_,fun _=>⟨rfl,rfl,rfl⟩,by simp at hlen; dsimp only; omega⟩
    rw [List.drop_zero,List.take_of_length_le (by omega)]
    exact hc
   ·simp only [VR]
    exact ⟨⟨w.heap.size,0,rc.size,e⟩,by rw [←hs.mem.len]; simp,rfl⟩
 | some t=>
  simp only [St.new,Option.some.injEq,Prod.mk.injEq] at he
  obtain ⟨rfl,rfl⟩:=he
  let lam':Nat→Nat:=fun u=>if u=t then w.heap.size else lam u
  have hnew:lam' t=w.heap.size:=by simp [lam']
  have hold:∀ u,u≠t→lam' u=lam u:=fun u hu=>by simp [lam',hu]
  have hh:∀ k,k < w.heap.size→(w.alloc (.cells rc e)).heap[k]?=w.heap[k]?:=fun k hk=>Below.heap_alloc w _ k hk
  have htmp:∀ u t' o',look (match lookL s.l t with | none=>s.t | some _=>scrub t s.t) u=.loc t' o'→t'≠t∧look s.t u=.loc t' o':=by
   intro u t' o' hu
   split at hu
   ·rename_i hno
    refine ⟨fun e=>?_,hu⟩
    subst e
    obtain ⟨c,hc'⟩:=hs.live u _ _ hu
    rw [hno] at hc'; cases hc'
   ·rw [look_scrub] at hu
    split at hu
    ·split at hu
     ·cases hu
     ·rename_i heq hne; cases hu; exact ⟨hne,heq⟩
    ·rename_i hx; exact absurd hu (hx _ _)
  refine wp_value hr (hk ρ lam' _ _ (by simp only [VT]; rw [hnew]) (fun t' o' e=>by cases e; exact ⟨cs,lookL_setL_same _ _ _⟩) ?_ ρ.le_refl ?_)
  ·refine ⟨hs.size,hs.defers,fun u=>?_,fun u t' o' hu=>?_,fun t' c hc'=>?_,fun t1 t2 c1 c2 h1 h2 he=>?_,fun t' c hc' ha=>?_,hs.mem.of_heap (fun k hk=>hh k (AliveM.lt hs.mem hk))⟩
   ·have h0:=hs.tmp u
    dsimp only
    have:VT lam' ρ (look s.t u) (a.tmps.getD u undef)∨∃ o',look s.t u=.loc t o':=by
     cases hl:look s.t u with
     | loc t' o'=>
      by_cases e:t'=t
      ·subst e; exact .inr ⟨o',rfl⟩
      ·rw [hl] at h0; simp only [VT] at h0 ⊢; rw [hold t' e]; exact .inl h0
     | _=>rw [hl] at h0; exact .inl h0
    rcases this with h1 | ⟨o',h1⟩
    ·split
     ·exact h1
     ·rw [look_scrub]
      split
      ·rename_i t' o2 heq
       rw [heq] at h1
       split
       ·simp [VT,VR]
       ·exact h1
      ·exact h1
    ·split
     ·rename_i hno
      obtain ⟨c,hc'⟩:=hs.live u _ _ h1
      rw [hno] at hc'; cases hc'
     ·rw [look_scrub,h1]; simp [VT,VR]
   ·obtain ⟨h1,h2⟩:=htmp u t' o' hu
    obtain ⟨c,hc'⟩:=hs.live u t' o' h2
    exact ⟨c,by dsimp only; rw [lookL_setL_ne _ _ _ _ (Ne.symm h1)]; exact hc'⟩
   ·dsimp only at hc'
    by_cases e':t'=t
    ·subst e'
     rw [lookL_setL_same] at hc'; cases hc'
     exact ⟨rc,e,by rw [hnew]; exact heap_alloc_new w _,hc⟩
    ·rw [lookL_setL_ne _ _ _ _ (Ne.symm e')] at hc'
     obtain ⟨rc',e2,h1,h2⟩:=hs.loc t' c hc'
     exact ⟨rc',e2,by rw [hold t' e',hh _ (hs.loc_lt hc')]; exact h1,h2⟩
   ·dsimp only at h1 h2
    by_cases e1:t1=t
    ·by_cases e2:t2=t
     ·rw [e1,e2]
     ·rw [lookL_setL_ne _ _ _ _ (Ne.symm e2)] at h2
      have:=hs.loc_lt h2
      rw [e1,hnew,hold t2 e2] at he; omega
    ·rw [lookL_setL_ne _ _ _ _ (Ne.symm e1)] at h1
     by_cases e2:t2=t
     ·have:=hs.loc_lt h1
      rw [e2,hnew,hold t1 e1] at he; omega
     ·rw [lookL_setL_ne _ _ _ _ (Ne.symm e2)] at h2
      rw [hold t1 e1,hold t2 e2] at he
      exact hs.linj _ _ _ _ h1 h2 he
   ·dsimp only at hc' ha
    by_cases e':t'=t
    ·subst e'; rw [hnew] at ha; exact Nat.lt_irrefl _ (AliveM.lt hs.mem ha)
    ·rw [lookL_setL_ne _ _ _ _ (Ne.symm e')] at hc'
     rw [hold t' e'] at ha; exact hs.lmem t' c hc' ha
  ·have hl:∀ k,LocK lam' (setL s.l t cs) k→LocK lam s.l k∨w.heap.size≤k:=by
    rintro k ⟨t',c,hc',rfl⟩
    by_cases e':t'=t
    ·subst e'; rw [hnew]; exact .inr (Nat.le_refl _)
    ·rw [lookL_setL_ne _ _ _ _ (Ne.symm e')] at hc'
     rw [hold t' e']; exact .inl ⟨t',c,hc',rfl⟩
   exact ⟨rfl,rfl,rfl,by simp,fun k hk _=>hh k hk,fun k hk=>hk.elim (fun h=>.inl (.inl h)) (fun h=>(hl k h).imp .inr id),
    fun k hk=>hk.elim (fun h=>.inl (.inl h)) (fun h=>(hl k h).imp .inr id),(by first | exact Nat.le_refl _ | exact Nat.le_succ _ | simp)⟩
theorem cells_ok {v:AV} {r:Value} {cs:List AV} (h:VT lam ρ v r) (hc:v.cells?=some cs):VRs ρ cs r.cells.toList:=by
 cases v <;> simp only [AV.cells?,Option.some.injEq] at hc <;> try (cases hc; done)
 case agg l=>
  simp only [VT,VR] at h
  obtain ⟨rs,rfl,hr⟩:=h
  subst hc; exact hr
 all_goals
  subst hc
  have h':=VT.vr h rfl
  have:r.cells=#[r]:=by
   simp only [VR] at h'
   first
    | (subst h'; rfl)
    | (obtain ⟨_,_,rfl⟩:=h'; rfl)
    | (obtain ⟨_,_,_,rfl,_⟩:=h'; rfl)
    | (obtain ⟨_,rfl,_⟩:=h'; rfl)
  rw [this]
  simp only [VRs]
  exact ⟨r,[],rfl,h',rfl⟩
end
end
end AG
