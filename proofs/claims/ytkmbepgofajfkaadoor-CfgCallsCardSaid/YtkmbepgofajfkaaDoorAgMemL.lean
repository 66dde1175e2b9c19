/- The abstract machine, part 4: steps of the memory. -/
import Derived.Test.YtkmbepgofajfkaaDoorAgRel
namespace AG
noncomputable section
open Go Go.RowKit
section
variable {P:Program} {ρ ρ':Rho} {m m':Mem} {w w':World}
theorem MR.of_heap (hm:MR P ρ m w) (h:∀ k,AliveM ρ m k→w'.heap[k]?=w.heap[k]?):MR P ρ m w':=
 ⟨hm.len,hm.le,hm.glob,fun i b hb=>by
  obtain ⟨x,hx,hr⟩:=hm.blk i b hb
  refine ⟨x,hx,?_⟩
  by_cases ha:b.alive=true
  ·exact hr.heap (h x.blk ⟨i,b,x,hb,ha,hx,rfl⟩)
  ·cases b <;> simp [ABlk.alive] at ha; trivial,hm.apart,hm.tys⟩
theorem MR.note (hm:MR P ρ m w) {i t:Nat} {z:Bool} {x:At} (hx:ρ[i]?=some x) (ht:x.ty=t) (hz:z=true→x.off=0):MR P ρ (m.note i t z) w:=
 ⟨hm.len,hm.le,hm.glob,hm.blk,hm.apart,fun j u z' hj=>by
  simp only [Mem.tyOf,Mem.note,lkTy] at hj
  split at hj
  ·rename_i e; subst e; cases hj; exact ⟨x,hx,ht,hz⟩
  ·exact hm.tys j u z' hj⟩
theorem MR.push (hm:MR P ρ m w) (hf:m.full=false) {b:ABlk} {x:At} (hna:¬AliveM ρ m x.blk)
  (hold:∀ k,AliveM ρ m k→w'.heap[k]?=w.heap[k]?) (hb:BR ρ x w' b):MR P (ρ++[x]) (m.push b) w':=by
 have hle:ρ.le (ρ++[x]):=Rho.le_append ρ [x]
 have hnew:(ρ++[x])[m.n]?=some x:=by rw [←hm.len]; simp
 have old:∀ {i:Nat} {b:ABlk},i≠m.n→(m.push b).get i=m.get i:=fun h=>Mem.get_push_old _ hf h
 have oldr:∀ {i:Nat} {y:At} {b:ABlk},m.get i=some b→(ρ++[x])[i]?=some y→ρ[i]?=some y:=fun {i y b} hg hy=>by
  have:=Mem.get_lt hg
  rwa [List.getElem?_append_left (by rw [hm.len]; exact this)] at hy
 refine ⟨by simp [hm.len,Mem.push],?_,fun g hg=>?_,fun i b' hi=>?_,fun i j b1 b2 x1 x2 h1 h2 hne ho ha hx1 hx2=>?_,fun i t z ht=>?_⟩
 rotate_right
 ·obtain ⟨y,hy,hty⟩:=hm.tys i t z ht
  exact ⟨y,hle _ _ hy,hty⟩
 ·have:m.n < 2 ^ depth:=by simpa [Mem.full] using hf
  simp only [Mem.push]; omega
 ·obtain ⟨y,hy,h1,h2⟩:=hm.glob g hg
  exact ⟨y,hle _ _ hy,h1,h2⟩
 ·by_cases e:i=m.n
  ·subst e
   rw [Mem.get_push_new] at hi; cases hi
   exact ⟨x,hnew,hb.mono hle⟩
  ·rw [old e] at hi
   obtain ⟨y,hy,hr⟩:=hm.blk i b' hi
   refine ⟨y,hle _ _ hy,?_⟩
   by_cases ha:b'.alive=true
   ·exact (hr.heap (hold y.blk ⟨i,b',y,hi,ha,hy,rfl⟩)).mono hle
   ·cases b' <;> simp [ABlk.alive] at ha; trivial
 ·by_cases e1:i=m.n
  ·subst e1
   rw [hnew] at hx1; cases hx1
   have e2:j≠m.n:=fun e=>hne e.symm
   rw [old e2] at h2
   exact fun e=>hna ⟨j,b2,x2,h2,ha,oldr h2 hx2,e.symm⟩
  ·rw [old e1] at h1
   by_cases e2:j=m.n
   ·subst e2
    rw [hnew] at hx2; cases hx2
    exact fun e=>hna ⟨i,b1,x1,h1,(by cases b1 <;> simp_all [ABlk.own,ABlk.alive]),oldr h1 hx1,e⟩
   ·rw [old e2] at h2
    exact hm.apart i j b1 b2 x1 x2 h1 h2 hne ho ha (oldr h1 hx1) (oldr h2 hx2)
theorem OwnM.push (hm:MR P ρ m w) (hf:m.full=false) {b:ABlk} {x:At} {k:Nat} (h:OwnM (ρ++[x]) (m.push b) k):OwnM ρ m k∨k=x.blk:=by
 obtain ⟨i,b',y,h1,h2,h3,rfl⟩:=h
 by_cases e:i=m.n
 ·subst e
  rw [←hm.len] at h3; simp at h3; exact .inr (by rw [h3])
 ·rw [Mem.get_push_old _ hf e] at h1
  rw [List.getElem?_append_left (by rw [hm.len]; exact Mem.get_lt h1)] at h3
  exact .inl ⟨i,b',y,h1,h2,h3,rfl⟩
theorem AliveM.push (hm:MR P ρ m w) (hf:m.full=false) {b:ABlk} {x:At} {k:Nat} (h:AliveM (ρ++[x]) (m.push b) k):AliveM ρ m k∨k=x.blk:=by
 obtain ⟨i,b',y,h1,h2,h3,rfl⟩:=h
 by_cases e:i=m.n
 ·subst e
  rw [←hm.len] at h3; simp at h3; exact .inr (by rw [h3])
 ·rw [Mem.get_push_old _ hf e] at h1
  rw [List.getElem?_append_left (by rw [hm.len]; exact Mem.get_lt h1)] at h3
  exact .inl ⟨i,b',y,h1,h2,h3,rfl⟩
theorem MR.set (hm:MR P ρ m w) {i:Nat} {b b':ABlk} {x:At} (hi:m.get i=some b) (ho:b.own=true) (hx:ρ[i]?=some x)
  (hold:∀ k,k≠x.blk→w'.heap[k]?=w.heap[k]?) (hb:BR ρ x w' b'):MR P ρ (m.set i b') w':=by
 have hlt:=Mem.get_lt hi
 have other:∀ {j:Nat},i≠j→(m.set i b').get j=m.get j:=fun h=>Mem.get_set_ne _ hm.le hlt h
 refine ⟨hm.len,hm.le,hm.glob,fun j c hj=>?_,fun j k c c' y z hj hk hne hco hca hy hz=>?_,hm.tys⟩
 ·by_cases e:i=j
  ·subst e
   rw [Mem.get_set_same _ hlt] at hj; cases hj
   exact ⟨x,hx,hb⟩
  ·rw [other e] at hj
   obtain ⟨y,hy,hr⟩:=hm.blk j c hj
   refine ⟨y,hy,?_⟩
   by_cases ha:c.alive=true
   ·exact hr.heap (hold y.blk (fun e'=>hm.apart i j b c x y hi hj e ho ha hx hy e'.symm))
   ·cases c <;> simp [ABlk.alive] at ha; trivial
 ·by_cases e1:i=j
  ·subst e1
   rw [hx] at hy; cases hy
   rw [other hne] at hk
   exact hm.apart i k b c' x z hi hk hne ho hca hx hz
  ·rw [other e1] at hj
   by_cases e2:i=k
   ·subst e2
    rw [hx] at hz; cases hz
    exact hm.apart j i c b y x hj hi (fun e=>e1 e.symm) hco (by cases b <;> simp_all [ABlk.own,ABlk.alive]) hy hx
   ·rw [other e2] at hk
    exact hm.apart j k c c' y z hj hk hne hco hca hy hz
theorem OwnM.set (hm:MR P ρ m w) {i:Nat} {b b':ABlk} (hi:m.get i=some b) (ho:b.own=true) {k:Nat} (h:OwnM ρ (m.set i b') k):OwnM ρ m k:=by
 obtain ⟨j,c,y,h1,h2,h3,rfl⟩:=h
 by_cases e:i=j
 ·subst e; exact ⟨i,b,y,hi,ho,h3,rfl⟩
 ·rw [Mem.get_set_ne _ hm.le (Mem.get_lt hi) e] at h1; exact ⟨j,c,y,h1,h2,h3,rfl⟩
theorem AliveM.set (hm:MR P ρ m w) {i:Nat} {b b':ABlk} (hi:m.get i=some b) (ho:b.own=true) {k:Nat} (h:AliveM ρ (m.set i b') k):AliveM ρ m k:=by
 obtain ⟨j,c,y,h1,h2,h3,rfl⟩:=h
 by_cases e:i=j
 ·subst e; exact ⟨i,b,y,hi,by cases b <;> simp_all [ABlk.own,ABlk.alive],h3,rfl⟩
 ·rw [Mem.get_set_ne _ hm.le (Mem.get_lt hi) e] at h1; exact ⟨j,c,y,h1,h2,h3,rfl⟩
theorem AliveM.dead (hm:MR P ρ m w) {i:Nat} {b:ABlk} {x:At} (hi:m.get i=some b) (ho:b.own=true) (hx:ρ[i]?=some x):¬AliveM ρ (m.set i .dead) x.blk:=by
 rintro ⟨j,c,y,h1,h2,h3,h4⟩
 by_cases e:i=j
 ·subst e; rw [Mem.get_set_same _ (Mem.get_lt hi)] at h1; cases h1; simp [ABlk.alive] at h2
 ·rw [Mem.get_set_ne _ hm.le (Mem.get_lt hi) e] at h1
  exact hm.apart i j b c x y hi h1 e ho h2 hx h3 h4.symm
structure MStep (P:Program) (ρ:Rho) (m:Mem) (w:World) (ρ':Rho) (m':Mem) (w':World):Prop where
 mr:MR P ρ' m' w'
 le:ρ.le ρ'
 fr:Fr (OwnM ρ m) (AliveM ρ m) w (OwnM ρ' m') (AliveM ρ' m') w'
theorem MStep.refl (hm:MR P ρ m w):MStep P ρ m w ρ m w:=⟨hm,ρ.le_refl,Fr.refl _ _ _⟩
theorem MStep.trans {ρ'':Rho} {m'':Mem} {w'':World} (h:MStep P ρ m w ρ' m' w') (k:MStep P ρ' m' w' ρ'' m'' w''):MStep P ρ m w ρ'' m'' w'':=
 ⟨k.mr,Rho.le_trans h.le k.le,h.fr.trans k.fr⟩
theorem MStep.drew (hm:MR P ρ m w):MStep P ρ m w ρ m w.drew:=
 ⟨hm.of_heap (fun _ _=>rfl),ρ.le_refl,⟨rfl,rfl,rfl,Nat.le_refl _,fun _ _ _=>rfl,fun _ h=>.inl h,fun _ h=>.inl h,Nat.le_succ _⟩⟩
theorem MStep.note (h:MStep P ρ m w ρ' m' w') {i t:Nat} {z:Bool} {x:At} (hx:ρ'[i]?=some x) (ht:x.ty=t) (hz:z=true→x.off=0):MStep P ρ m w ρ' (m'.note i t z) w':=
 ⟨h.mr.note hx ht hz,h.le,h.fr⟩
theorem MStep.noteO (h:MStep P ρ m w ρ' m' w') {i:Nat} {o:Option Nat} (hx:∀ t,o=some t→∃ x:At,ρ'[i]?=some x∧x.ty=t):MStep P ρ m w ρ' (m'.noteO i o) w':=by
 cases o with
 | none=>exact h
 | some t=>obtain ⟨x,h1,h2⟩:=hx t rfl; exact h.note h1 h2 (fun e=>by cases e)
theorem MStep.new (hm:MR P ρ m w) (hf:m.full=false) {b:ABlk} {o:Obj} {n t:Nat} (hb:BR ρ ⟨w.heap.size,0,n,t⟩ (w.alloc o) b):
  MStep P ρ m w (ρ++[⟨w.heap.size,0,n,t⟩]) (m.push b) (w.alloc o):=by
 have hna:¬AliveM ρ m w.heap.size:=fun h=>Nat.lt_irrefl _ (AliveM.lt hm h)
 have hold:∀ k,k < w.heap.size→(w.alloc o).heap[k]?=w.heap[k]?:=fun k hk=>Below.heap_alloc w o k hk
 refine ⟨hm.push hf hna (fun k hk=>hold k (AliveM.lt hm hk)) hb,Rho.le_append _ _,⟨rfl,rfl,rfl,by simp,fun k hk _=>hold k hk,fun k hk=>?_,fun k hk=>?_,Nat.le_refl _⟩⟩
 ·rcases OwnM.push hm hf hk with h | h
  ·exact .inl h
  ·exact .inr (by simp [h])
 ·rcases AliveM.push hm hf hk with h | h
  ·exact .inl h
  ·exact .inr (by simp [h])
theorem MStep.set (hm:MR P ρ m w) {i:Nat} {b b':ABlk} {x:At} (hi:m.get i=some b) (ho:b.own=true) (hx:ρ[i]?=some x)
  (hos:w'.os=w.os) (htape:w'.tape=w.tape) (hout:w'.output=w.output) (hsize:w.heap.size≤w'.heap.size)
  (hold:∀ k,k≠x.blk→w'.heap[k]?=w.heap[k]?) (hb:BR ρ x w' b') (hd:w.drawn≤w'.drawn:=by first | exact Nat.le_refl _ | exact Nat.le_succ _ | simp):MStep P ρ m w ρ (m.set i b') w':=
 ⟨hm.set hi ho hx hold hb,ρ.le_refl,⟨hos,htape,hout,hsize,fun k _ hn=>hold k (fun e=>hn ⟨i,b,x,hi,ho,hx,e.symm⟩),
  fun _ h=>.inl (OwnM.set hm hi ho h),fun _ h=>.inl (AliveM.set hm hi ho h),hd⟩⟩
end
section
variable {P:Program} {ρ ρ':Rho} {lam:Nat→Nat} {s:St} {a:Act} {m':Mem} {w w':World}
theorem SR.step (h:SR P ρ lam s a w) (k:MStep P ρ s.m w ρ' m' w'):
  SR P ρ' lam { s with m:=m' } a w'∧Fr (OwnS ρ lam s) (AliveS ρ lam s) w (OwnS ρ' lam { s with m:=m' }) (AliveS ρ' lam { s with m:=m' }) w':=by
 have hloc:∀ t c,lookL s.l t=some c→w'.heap[lam t]?=w.heap[lam t]?:=fun t c hc=>
  k.fr.keep (lam t) (h.loc_lt hc) (fun ho=>h.lmem t c hc ho.alive)
 refine ⟨⟨h.size,h.defers,fun u=>VT.mono k.le (h.tmp u),h.live,fun t c hc=>?_,h.linj,fun t c hc ha=>?_,k.mr⟩,⟨k.fr.os,k.fr.tape,k.fr.output,k.fr.size,fun i hi hn=>k.fr.keep i hi (fun ho=>hn (.inl ho)),fun i hi=>?_,fun i hi=>?_,k.fr.drawn⟩⟩
 ·obtain ⟨rc,e,h1,h2⟩:=h.loc t c hc
  exact ⟨rc,e,(hloc t c hc).trans h1,VRs.mono k.le _ _ h2⟩
 ·rcases k.fr.alive _ ha with h' | h'
  ·exact h.lmem t c hc h'
  ·have:=h.loc_lt hc; omega
 ·rcases hi with hi | hi
  ·exact (k.fr.own i hi).imp .inl id
  ·exact .inl (.inr hi)
 ·rcases hi with hi | hi
  ·exact (k.fr.alive i hi).imp .inl id
  ·exact .inl (.inr hi)
end
end
end AG
