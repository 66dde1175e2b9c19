/- The abstract machine, part 3: how its states stand to the model's. -/
import Derived.Test.YtkmbepgofajfkaaDoorAgEv
namespace AG
noncomputable section
open Go Go.RowKit
theorem look_setT_same:∀ (l:List (Nat×AV)) (t:Nat) (v:AV),look (setT l t v) t=v
 | [],t,v=>by simp [setT_nil,look_cons]
 | (u,x)::r,t,v=>by
  rw [setT_cons]
  split
  ·simp [look_cons]
  ·split
   ·simp [look_cons]
   ·rename_i h _; simp [look_cons,h,look_setT_same r]
theorem look_setT_ne:∀ (l:List (Nat×AV)) (t u:Nat) (v:AV),t≠u→look (setT l t v) u=look l u
 | [],t,u,v,h=>by simp [setT_nil,look_nil,look_cons,h]
 | (u',x)::r,t,u,v,h=>by
  rw [setT_cons]
  split
  ·rename_i e; subst e; simp [look_cons,h]
  ·split
   ·simp [look_cons,h]
   ·simp only [look_cons]; split
    ·rfl
    ·exact look_setT_ne r t u v h
theorem lookL_setL_same:∀ (l:List (Nat×List AV)) (t:Nat) (v:List AV),lookL (setL l t v) t=some v
 | [],t,v=>by simp [setL_nil,lookL_cons]
 | (u,x)::r,t,v=>by
  rw [setL_cons]
  split
  ·simp [lookL_cons]
  ·split
   ·simp [lookL_cons]
   ·rename_i h _; simp [lookL_cons,h,lookL_setL_same r]
theorem lookL_setL_ne:∀ (l:List (Nat×List AV)) (t u:Nat) (v:List AV),t≠u→lookL (setL l t v) u=lookL l u
 | [],t,u,v,h=>by simp [setL_nil,lookL_nil,lookL_cons,h]
 | (u',x)::r,t,u,v,h=>by
  rw [setL_cons]
  split
  ·rename_i e; subst e; simp [lookL_cons,h]
  ·split
   ·simp [lookL_cons,h]
   ·simp only [lookL_cons]; split
    ·rfl
    ·exact lookL_setL_ne r t u v h
theorem look_map (f:Nat→AV):∀ (ts:List Nat) (u:Nat),look (ts.map fun u=>(u,f u)) u=if u∈ts then f u else .unk
 | [],u=>by simp [look_nil]
 | t::r,u=>by
  simp only [List.map_cons,look_cons,List.mem_cons]
  by_cases h:t=u
  ·subst h; simp
  ·rw [if_neg h,look_map f r u]
   have:u≠t:=fun e=>h e.symm
   simp [this]
theorem lookL_keepL (l:List (Nat×List AV)):∀ (ls:List Nat) (t:Nat) (c:List AV),lookL (keepL l ls) t=some c→t∈ls∧lookL l t=some c
 | [],t,c,h=>by simp [keepL,lookL_nil] at h
 | u::r,t,c,h=>by
  unfold keepL at h
  split at h
  ·rename_i c' hc
   simp only [lookL_cons] at h
   split at h
   ·rename_i e; subst e; cases h; exact ⟨by simp,hc⟩
   ·have:=lookL_keepL l r t c h; exact ⟨by simp [this.1],this.2⟩
  ·have:=lookL_keepL l r t c h; exact ⟨by simp [this.1],this.2⟩
theorem lookL_keepL_of (l:List (Nat×List AV)):∀ (ls:List Nat) (t:Nat) (c:List AV),t∈ls→lookL l t=some c→lookL (keepL l ls) t=some c
 | [],t,c,h,_=>by simp at h
 | u::r,t,c,h,hc=>by
  unfold keepL
  by_cases e:u=t
  ·subst e; simp [hc,lookL_cons]
  ·have hr:t∈r:=by rcases List.mem_cons.1 h with h | h; exact absurd h.symm e; exact h
   split
   ·simp [lookL_cons,e,lookL_keepL_of l r t c hr hc]
   ·exact lookL_keepL_of l r t c hr hc
theorem look_scrub (t:Nat):∀ (l:List (Nat×AV)) (u:Nat),look (scrub t l) u=match look l u with | .loc t' o=>if t'=t then .unk else .loc t' o | v=>v
 | [],u=>by simp [scrub,look_nil]
 | (u',v)::r,u=>by
  simp only [scrub,look_cons]
  split
  ·cases v <;> simp
  ·exact look_scrub t r u
def VT (lam:Nat→Nat) (ρ:Rho):AV→Value→Prop
 | .loc t o,r=>r=.pointer (some ⟨lam t,o,none⟩)
 | v,r=>VR ρ v r
theorem VT.vr {lam:Nat→Nat} {ρ:Rho} {v:AV} {r:Value} (h:VT lam ρ v r) (hv:v.isLoc=false):VR ρ v r:=by
 cases v <;> first | exact h | simp [AV.isLoc] at hv
theorem VT.of_vr {lam:Nat→Nat} {ρ:Rho} {v:AV} {r:Value} (h:VR ρ v r):VT lam ρ v r:=by
 cases v <;> first | exact h | simp [VR] at h
theorem VT.mono {lam:Nat→Nat} {ρ ρ':Rho} (hle:ρ.le ρ') {v:AV} {r:Value} (h:VT lam ρ v r):VT lam ρ' v r:=by
 cases v <;> first | exact h | exact VR.mono hle _ _ h
def ABlk.own:ABlk→Bool
 | .cells _ o=>o
 | .map _ _=>true
 | .siter _ _=>true
 | .dead=>false
def ABlk.alive:ABlk→Bool
 | .dead=>false
 | _=>true
def BR (ρ:Rho) (x:At) (w:World):ABlk→Prop
 | .cells c own=>∃ rc e fz,w.heap[x.blk]?=some (.cells rc e fz)∧VRs ρ c ((rc.toList.drop x.off).take c.length)∧(own=true→fz=(0,0)∧x.size=rc.size∧x.ty=e)∧x.off+c.length≤rc.size∧(own=false→x.size=0→rc.size=x.off+c.length)
 | .map es clock=>∃ res:Array MapEntry,w.heap[x.blk]?=some (.map res clock)∧res.size=es.length∧∀ (i:Nat) (k v:AV) (b:Nat),es[i]?=some (k,v,b)→∃ r,res[i]?=some r∧VR ρ k r.key∧VR ρ v r.val∧r.born=b
 | .siter s pos=>w.heap[x.blk]?=some (.stringIter s pos)∧x.off=0
 | .dead=>True
theorem BR.mono {ρ ρ':Rho} (h:ρ.le ρ') {x:At} {w:World}:∀ {b:ABlk},BR ρ x w b→BR ρ' x w b
 | .cells c own,hb=>by
  obtain ⟨rc,e,fz,h1,h2,h3⟩:=hb; exact ⟨rc,e,fz,h1,VRs.mono h _ _ h2,h3⟩
 | .map es clock,hb=>by
  obtain ⟨res,h1,h2,h3⟩:=hb
  refine ⟨res,h1,h2,fun i k v b hi=>?_⟩
  obtain ⟨r,a1,a2,a3,a4⟩:=h3 i k v b hi
  exact ⟨r,a1,VR.mono h _ _ a2,VR.mono h _ _ a3,a4⟩
 | .siter _ _,hb=>hb
 | .dead,_=>trivial
theorem BR.heap {ρ:Rho} {x:At} {w w':World} (h:w'.heap[x.blk]?=w.heap[x.blk]?):∀ {b:ABlk},BR ρ x w b→BR ρ x w' b
 | .cells c own,hb=>by
  obtain ⟨rc,e,fz,h1,h2,h3⟩:=hb; exact ⟨rc,e,fz,h.trans h1,h2,h3⟩
 | .map es clock,hb=>by
  obtain ⟨res,h1,h2⟩:=hb; exact ⟨res,h.trans h1,h2⟩
 | .siter _ _,hb=>⟨h.trans hb.1,hb.2⟩
 | .dead,_=>trivial
theorem BR.lt {ρ:Rho} {x:At} {w:World} {b:ABlk} (h:BR ρ x w b) (ha:b.alive=true):x.blk < w.heap.size:=by
 cases b with
 | cells c own=>obtain ⟨rc,e,fz,h1,_⟩:=h; exact (Array.getElem?_eq_some_iff.1 h1).1
 | map es clock=>obtain ⟨res,h1,_⟩:=h; exact (Array.getElem?_eq_some_iff.1 h1).1
 | siter s pos=>exact (Array.getElem?_eq_some_iff.1 h.1).1
 | dead=>simp [ABlk.alive] at ha
structure MR (P:Program) (ρ:Rho) (m:Mem) (w:World):Prop where
 len:ρ.length=m.n
 le:m.n≤2 ^ depth
 glob:∀ g,g < P.globals.size→∃ x:At,ρ[g]?=some x∧x.blk=g∧x.off=0∧x.size=0
 blk:∀ (i:Nat) (b:ABlk),m.get i=some b→∃ x:At,ρ[i]?=some x∧BR ρ x w b
 apart:∀ (i j:Nat) (b b':ABlk) (x y:At),m.get i=some b→m.get j=some b'→i≠j→b.own=true→b'.alive=true→ρ[i]?=some x→ρ[j]?=some y→x.blk≠y.blk
 tys:∀ i t z,m.tyOf i=some (t,z)→∃ x:At,ρ[i]?=some x∧x.ty=t∧(z=true→x.off=0)
def OwnM (ρ:Rho) (m:Mem) (k:Nat):Prop:=∃ (i:Nat) (b:ABlk) (x:At),m.get i=some b∧b.own=true∧ρ[i]?=some x∧x.blk=k
def AliveM (ρ:Rho) (m:Mem) (k:Nat):Prop:=∃ (i:Nat) (b:ABlk) (x:At),m.get i=some b∧b.alive=true∧ρ[i]?=some x∧x.blk=k
def LocK (lam:Nat→Nat) (l:List (Nat×List AV)) (k:Nat):Prop:=∃ t c,lookL l t=some c∧lam t=k
structure Fr (O V:Nat→Prop) (w:World) (O' V':Nat→Prop) (w':World):Prop where
 os:w'.os=w.os
 tape:w'.tape=w.tape
 output:w'.output=w.output
 size:w.heap.size≤w'.heap.size
 keep:∀ k,k < w.heap.size→¬O k→w'.heap[k]?=w.heap[k]?
 own:∀ k,O' k→O k∨w.heap.size≤k
 alive:∀ k,V' k→V k∨w.heap.size≤k
 drawn:w.drawn≤w'.drawn
theorem Fr.refl (O V:Nat→Prop) (w:World):Fr O V w O V w:=⟨rfl,rfl,rfl,Nat.le_refl _,fun _ _ _=>rfl,fun _ h=>.inl h,fun _ h=>.inl h,Nat.le_refl _⟩
theorem Fr.trans {O V O' V' O'' V'':Nat→Prop} {w w' w'':World} (h:Fr O V w O' V' w') (k:Fr O' V' w' O'' V'' w''):Fr O V w O'' V'' w'':=
 ⟨k.os.trans h.os,k.tape.trans h.tape,k.output.trans h.output,Nat.le_trans h.size k.size,
  fun i hi hn=>(k.keep i (Nat.lt_of_lt_of_le hi h.size) (fun ho=>(h.own i ho).elim hn (fun hl=>by omega))).trans (h.keep i hi hn),
  fun i hi=>(k.own i hi).elim (h.own i) (fun hl=>.inr (Nat.le_trans h.size hl)),
  fun i hi=>(k.alive i hi).elim (h.alive i) (fun hl=>.inr (Nat.le_trans h.size hl)),Nat.le_trans h.drawn k.drawn⟩
structure SR (P:Program) (ρ:Rho) (lam:Nat→Nat) (s:St) (a:Act) (w:World):Prop where
 size:a.tmps.size=s.n
 defers:a.defers=[]
 tmp:∀ u,VT lam ρ (look s.t u) (a.tmps.getD u undef)
 live:∀ u t o,look s.t u=.loc t o→∃ c,lookL s.l t=some c
 loc:∀ t c,lookL s.l t=some c→∃ rc e,w.heap[lam t]?=some (.cells rc e (0,0))∧VRs ρ c rc.toList
 linj:∀ t t' c c',lookL s.l t=some c→lookL s.l t'=some c'→lam t=lam t'→t=t'
 lmem:∀ t c,lookL s.l t=some c→¬AliveM ρ s.m (lam t)
 mem:MR P ρ s.m w
def OwnS (ρ:Rho) (lam:Nat→Nat) (s:St) (k:Nat):Prop:=OwnM ρ s.m k∨LocK lam s.l k
def AliveS (ρ:Rho) (lam:Nat→Nat) (s:St) (k:Nat):Prop:=AliveM ρ s.m k∨LocK lam s.l k
theorem OwnM.alive {ρ:Rho} {m:Mem} {k:Nat} (h:OwnM ρ m k):AliveM ρ m k:=by
 obtain ⟨i,b,x,h1,h2,h3⟩:=h
 exact ⟨i,b,x,h1,by cases b <;> simp_all [ABlk.own,ABlk.alive],h3⟩
theorem AliveM.lt {P:Program} {ρ:Rho} {m:Mem} {w:World} (hm:MR P ρ m w) {k:Nat} (h:AliveM ρ m k):k < w.heap.size:=by
 obtain ⟨i,b,x,h1,h2,h3,rfl⟩:=h
 obtain ⟨x',hx',hb⟩:=hm.blk i b h1
 rw [h3] at hx'; cases hx'
 exact hb.lt h2
theorem SR.loc_lt {P:Program} {ρ:Rho} {lam:Nat→Nat} {s:St} {a:Act} {w:World} (h:SR P ρ lam s a w) {t:Nat} {c:List AV} (hc:lookL s.l t=some c):lam t < w.heap.size:=by
 obtain ⟨rc,e,h1,_⟩:=h.loc t c hc
 exact (Array.getElem?_eq_some_iff.1 h1).1
theorem getD_set (a:Array Value) (d u:Nat) (v:Value):(a.setIfInBounds d v).getD u undef=if d=u∧d < a.size then v else a.getD u undef:=by
 by_cases h:d=u
 ·subst h
  by_cases hd:d < a.size
  ·simp [hd]
  ·simp [hd]
 ·simp [h,Array.getElem?_setIfInBounds_ne h]
theorem SR.put {P:Program} {ρ:Rho} {lam:Nat→Nat} {s s':St} {a:Act} {w:World} (h:SR P ρ lam s a w) {d:Option Nat} {v:AV} {r:Value}
  (hv:VT lam ρ v r) (hl:∀ t o,v=.loc t o→∃ c,lookL s.l t=some c) (hp:s.put d v=some s'):SR P ρ lam s' (a.put d r) w:=by
 cases d with
 | none=>simp only [St.put,Option.some.injEq] at hp; subst hp; exact h
 | some d=>
  simp only [St.put] at hp
  split at hp
  ·rename_i hd
   cases hp
   refine ⟨by simpa [Act.put] using h.size,h.defers,fun u=>?_,fun u t o hu=>?_,h.loc,h.linj,h.lmem,h.mem⟩
   ·simp only [Act.put,getD_set]
    by_cases e:d=u
    ·subst e
     rw [look_setT_same,if_pos ⟨rfl,by rw [h.size]; exact hd⟩]; exact hv
    ·rw [look_setT_ne _ _ _ _ e,if_neg (by simp [e])]; exact h.tmp u
   ·dsimp only at hu
    by_cases e:d=u
    ·subst e; rw [look_setT_same] at hu; exact hl t o hu
    ·rw [look_setT_ne _ _ _ _ e] at hu; exact h.live u t o hu
  ·cases hp
theorem put_m {s s':St} {d:Option Nat} {v:AV} (hp:s.put d v=some s'):s'.m=s.m∧s'.l=s.l∧s'.n=s.n:=by
 cases d with
 | none=>simp only [St.put,Option.some.injEq] at hp; subst hp; exact ⟨rfl,rfl,rfl⟩
 | some d=>
  simp only [St.put] at hp
  split at hp
  ·cases hp; exact ⟨rfl,rfl,rfl⟩
  ·cases hp
theorem SR.opd {P:Program} {ρ:Rho} {lam:Nat→Nat} {s:St} {a:Act} {w:World} (h:SR P ρ lam s a w) {x:Operand} {y:Opd} (hx:opd P x=some y):VT lam ρ (s.opd y) (a.eval x):=by
 cases x with
 | tmp t=>simp only [AG.opd,Option.some.injEq] at hx; subst hx; exact h.tmp t
 | const v=>simp only [AG.opd,Option.some.injEq] at hx; subst hx; exact VT.of_vr (cAV_ok ρ v)
 | global g=>
  simp only [AG.opd] at hx
  split at hx
  ·rename_i hg
   cases hx
   obtain ⟨y,h1,h2,h3,_⟩:=h.mem.glob g hg
   exact VT.of_vr (by simp only [St.opd,VR]; exact ⟨y,h1,by simp [Act.eval,h2,h3]⟩)
  ·cases hx
 | func f=>simp only [AG.opd,Option.some.injEq] at hx; subst hx; exact VT.of_vr (by simp only [St.opd,VR]; exact ⟨#[],rfl,by simp [VRs]⟩)
theorem SR.opd_live {P:Program} {ρ:Rho} {lam:Nat→Nat} {s:St} {a:Act} {w:World} (h:SR P ρ lam s a w) {x:Operand} {y:Opd} (hx:AG.opd P x=some y):
  ∀ t o,s.opd y=.loc t o→∃ c,lookL s.l t=some c:=by
 intro t o he
 cases x with
 | tmp u=>simp only [AG.opd,Option.some.injEq] at hx; subst hx; exact h.live u t o he
 | const v=>
  simp only [AG.opd,Option.some.injEq] at hx; subst hx
  have:=cAV_ok ρ v
  simp only [St.opd] at he
  rw [he] at this; simp [VR] at this
 | global g=>
  simp only [AG.opd] at hx
  split at hx
  ·cases hx; simp [St.opd] at he
  ·cases hx
 | func f=>simp only [AG.opd,Option.some.injEq] at hx; subst hx; simp [St.opd] at he
theorem SR.keep {P:Program} {ρ:Rho} {lam:Nat→Nat} {s:St} {a:Act} {w:World} (h:SR P ρ lam s a w) (ts ls:List Nat):
  SR P ρ lam { s with t:=keepT ts ls s.t,l:=keepL s.l ls } a w:=by
 refine ⟨h.size,h.defers,fun u=>?_,fun u t o hu=>?_,fun t c hc=>h.loc t c (lookL_keepL _ _ _ _ hc).2,fun t t' c c' hc hc'=>h.linj t t' c c' (lookL_keepL _ _ _ _ hc).2 (lookL_keepL _ _ _ _ hc').2,fun t c hc=>h.lmem t c (lookL_keepL _ _ _ _ hc).2,h.mem⟩
 ·dsimp only [keepT]
  rw [look_map (fun u=>if (look s.t u).locIn ls then look s.t u else .unk)]
  split
  ·split
   ·exact h.tmp u
   ·simp [VT,VR]
  ·simp [VT,VR]
 ·dsimp only [keepT] at hu
  rw [look_map (fun u=>if (look s.t u).locIn ls then look s.t u else .unk)] at hu
  split at hu
  ·split at hu
   ·rename_i hin
    obtain ⟨c,hc⟩:=h.live u t o hu
    rw [hu] at hin
    exact ⟨c,lookL_keepL_of _ _ _ _ (by simpa [AV.locIn] using hin) hc⟩
   ·cases hu
  ·cases hu
end
end AG
