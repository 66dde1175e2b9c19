/- The abstract machine, part 13: regions that draw their order. -/
import Derived.Test.YtkmbepgofajfkaaDoorAgDraw
namespace AG
noncomputable section
open Go Go.RowKit
def core (call:Caller) (o:AOper×Bool) (s:St):Option (AV×St):=
 match guardEv o.1.guard s with
 | some true=>if o.2&&!careEv o.1.op s then none else opEv call o.1.op s
 | some false=>some (.tup [],s)
 | none=>none
theorem dOne_core {call:Caller} {o:AOper×Bool} {s:St}:dOneEv call o s=match core call o s with
  | some (v,s')=>s'.put o.1.dst v
  | none=>none:=by
 unfold dOneEv core
 cases guardEv o.1.guard s with
 | none=>rfl
 | some b=>
  cases b
  ·rfl
  ·dsimp only
   split <;> rfl
theorem dOne_one {call:Caller} {o:AOper×Bool} {s s':St} (h:dOneEv call o s=some s'):oneEv call o.1 s=some s':=by
 unfold dOneEv at h
 unfold oneEv
 split at h
 ·split at h
  ·cases h
  ·exact h
 ·exact h
 ·cases h
def Beh (call:Caller) (o:AOper×Bool) (s:St) (v:AV) (s1:St):Kd→Prop
 | .pure=>s1=s∧∀ s':St,Alike s s' o.1.ts→core call o s'=some (v,s')
 | .read=>s1=s∧(o.2=true→∃ t c,lookL s.l t=some c∧∀ s':St,Alike s s' o.1.ts→lookL s'.l t=some c→core call o s'=some (v,s'))∧
   ∀ s':St,Alike s s' o.1.ts→MExt s.m s'.m→(∀ t c,lookL s.l t=some c→lookL s'.l t=some c)→core call o s'=some (v,s')
 | .newl=>∃ t cs,lookL s.l t=none∧s1={ s with l:=setL s.l t cs }∧∀ s':St,Alike s s' o.1.ts→lookL s'.l t=none→core call o s'=some (v,{ s' with l:=setL s'.l t cs })
 | .mem=>∃ m1,s1={ s with m:=m1 }∧∀ s':St,Alike s s' o.1.ts→s'.m=s.m→core call o s'=some (v,{ s' with m:=m1 })
 | .store=>∃ l1 m1,s1={ s with l:=l1,m:=m1 }∧∀ s':St,Alike s s' o.1.ts→s'.l=s.l→s'.m=s.m→core call o s'=some (v,{ s' with l:=l1,m:=m1 })
 | .newm=>∃ m1,s1={ s with m:=m1 }∧MExt s.m m1∧∀ s':St,Alike s s' o.1.ts→s'.m=s.m→core call o s'=some (v,{ s' with m:=m1 })
theorem guard_alike {o:AOper} {s s':St} (h:Alike s s' o.ts):guardEv o.guard s'=guardEv o.guard s:=by
 unfold guardEv
 split
 ·rfl
 ·rename_i g want hg
  have:look s'.t g=look s.t g:=h g (List.mem_append_left _ (by rw [hg]; simp))
  rw [this]
theorem beh {call:Caller} {o:AOper×Bool} {s s1:St} {v:AV} (hf:o.2=true→o.1.op.kd=.newl∨o.1.op.kd=.read) (hn:o.1.op.kd=.newl→o.2=true) (he:core call o s=some (v,s1)):
  ∃ k,(k=o.1.op.kd∨k=.pure)∧Beh call o s v s1 k:=by
 unfold core at he
 have hop:∀ {s':St},Alike s s' o.1.ts→Alike s s' o.1.op.ts:=fun h t ht=>h t (List.mem_append_right _ ht)
 split at he
 ·rename_i hg
  split at he
  ·cases he
  ·rename_i hc
   have hcare:o.2=true→careEv o.1.op s=true:=by
    intro h2
    cases hx:careEv o.1.op s
    ·simp [h2,hx] at hc
    ·rfl
   have go:∀ {s':St},Alike s s' o.1.ts→(o.2=true→careEv o.1.op s'=true)→core call o s'=opEv call o.1.op s':=by
    intro s' h h2
    unfold core
    rw [guard_alike h,hg]
    dsimp only
    rw [if_neg]
    cases hx:o.2
    ·simp
    ·simp [h2 hx]
   refine ⟨o.1.op.kd,.inl rfl,?_⟩
   have hnf:o.1.op.kd≠.newl→o.1.op.kd≠.read→o.2=true→∀ s':St,careEv o.1.op s'=true:=fun h1 h2 h3=>absurd (hf h3) (by simp [h1,h2])
   cases hk:o.1.op.kd
   ·obtain ⟨h1,h2⟩:=op_pure hk he
    exact ⟨h1,fun s' h=>by rw [go h (fun q=>hnf (by simp [hk]) (by simp [hk]) q s')]; exact h2 s' (hop h)⟩
   ·obtain ⟨h1,h2,h3⟩:=op_read hk he
    refine ⟨h1,fun h4=>?_,fun s' h hm hl=>?_⟩
    ·obtain ⟨t,c,h5,h6⟩:=h2 (hcare h4)
     exact ⟨t,c,h5,fun s' h hl=>by
      obtain ⟨h7,h8⟩:=h6 s' (hop h) hl
      rw [go h (fun _=>h8)]; exact h7⟩
    ·have hc':o.2=true→careEv o.1.op s'=true:=by
      intro h4
      obtain ⟨t,c,h5,h6⟩:=h2 (hcare h4)
      exact (h6 s' (hop h) (hl _ _ h5)).2
     rw [go h hc']; exact h3 s' (hop h) hm hl
   ·obtain ⟨t,cs,h1,h2,h3⟩:=op_newl hk (hcare (hn hk)) he
    exact ⟨t,cs,h1,h2,fun s' h hl=>by
     obtain ⟨h4,h5⟩:=h3 s' (hop h) hl
     rw [go h (fun _=>h5)]; exact h4⟩
   ·obtain ⟨m1,h1,h2⟩:=op_mem hk he
    exact ⟨m1,h1,fun s' h hm=>by rw [go h (fun q=>hnf (by simp [hk]) (by simp [hk]) q s')]; exact h2 s' (hop h) hm⟩
   ·obtain ⟨l1,m1,h1,h2⟩:=op_stor hk he
    exact ⟨l1,m1,h1,fun s' h hl hm=>by rw [go h (fun q=>hnf (by simp [hk]) (by simp [hk]) q s')]; exact h2 s' (hop h) hl hm⟩
   ·obtain ⟨m1,h1,h0,h2⟩:=op_newm hk he
    exact ⟨m1,h1,h0,fun s' h hm=>by rw [go h (fun q=>hnf (by simp [hk]) (by simp [hk]) q s')]; exact h2 s' (hop h) hm⟩
 ·rename_i hg
  simp only [Option.some.injEq,Prod.mk.injEq] at he
  obtain ⟨rfl,rfl⟩:=he
  refine ⟨.pure,.inr rfl,rfl,fun s' h=>?_⟩
  unfold core
  rw [guard_alike h,hg]
 ·cases he
def putT (t:List (Nat×AV)) (d:Option Nat) (v:AV):List (Nat×AV):=
 match d with
 | none=>t
 | some d=>setT t d v
theorem put_iff {s s':St} {d:Option Nat} {v:AV}:s.put d v=some s'↔s'={ s with t:=putT s.t d v }∧∀ x,d=some x→x < s.n:=by
 cases d with
 | none=>simp only [St.put,putT,Option.some.injEq]; constructor <;> (rintro h; simp_all)
 | some d=>
  simp only [St.put,putT]
  split
  ·rename_i h; constructor <;> (rintro h; simp_all)
  ·rename_i h; constructor <;> (rintro h; simp_all)
theorem look_putT {t:List (Nat×AV)} {d:Option Nat} {v:AV} {u:Nat} (h:d≠some u):look (putT t d v) u=look t u:=by
 cases d with
 | none=>rfl
 | some d=>exact look_setT_ne _ _ _ _ (fun e=>h (by rw [e]))
theorem apartO_spec {d e:Option Nat} {l:List Nat} (h:apartO d l e=true):(∀ u∈l,d≠some u)∧(∀ x,d=some x→e≠some x):=by
 cases d with
 | none=>exact ⟨fun u _=>by simp,fun x hx=>by simp at hx⟩
 | some d=>
  simp only [apartO,Bool.and_eq_true,Bool.not_eq_true'] at h
  obtain ⟨h1,h2⟩:=h
  refine ⟨fun u hu he=>?_,fun x hx he=>?_⟩
  ·simp only [Option.some.injEq] at he; subst he
   have:l.contains d=true:=by simpa using hu
   rw [this] at h1; cases h1
  ·cases hx; subst he; simp at h2
theorem putT_comm {t:List (Nat×AV)} {d e:Option Nat} {v x:AV} (h:∀ u,d=some u→e≠some u):putT (putT t d v) e x=putT (putT t e x) d v:=by
 cases d with
 | none=>rfl
 | some d=>
  cases e with
  | none=>rfl
  | some e=>exact setT_comm t v x (fun q=>h d rfl (by rw [q]))
theorem swap_core {call:Caller} {i j:AOper×Bool} {s s1 s3:St} {vj vi:AV} {ki kj:Kd} (hk:kdPair kj ki j.2 i.2=true) (hi:apartO i.1.dst j.1.ts j.1.dst=true) (hj:apartO j.1.dst i.1.ts i.1.dst=true)
  (bj:Beh call j s vj s1 kj) (bi:Beh call i { s1 with t:=putT s1.t j.1.dst vj } vi s3 ki):
  s3.t=putT s1.t j.1.dst vj∧s1.t=s.t∧s3.n=s.n∧∃ l m,core call i s=some (vi,{ s with l:=l,m:=m })∧core call j { s with t:=putT s.t i.1.dst vi,l:=l,m:=m }=some (vj,{ s3 with t:=putT s.t i.1.dst vi }):=by
 obtain ⟨n,t,l,m⟩:=s
 have ai:∀ l m t',t'=t→Alike { n:=n,t:=putT t j.1.dst vj,l:=l,m:=m:St } { n:=n,t:=t',l:=l,m:=m:St } i.1.ts:=by
  intro l m t' ht u hu; subst ht
  exact (look_putT ((apartO_spec hj).1 u hu)).symm
 have ai':∀ l m l' m',Alike { n:=n,t:=putT t j.1.dst vj,l:=l,m:=m:St } { n:=n,t:=t,l:=l',m:=m':St } i.1.ts:=by
  intro l m l' m' u hu
  exact (look_putT ((apartO_spec hj).1 u hu)).symm
 have aj:∀ l' m',Alike { n:=n,t:=t,l:=l,m:=m:St } { n:=n,t:=putT t i.1.dst vi,l:=l',m:=m':St } j.1.ts:=by
  intro l' m' u hu
  exact look_putT ((apartO_spec hi).1 u hu)
 have lset:∀ {l:List (Nat×List AV)} {t1 t2:Nat} {cs c:List AV},lookL l t1=none→lookL l t2=some c→lookL (setL l t1 cs) t2=some c:=by
  intro l t1 t2 cs c h1 h2
  rw [lookL_setL_ne]; exact h2
  intro e; subst e; rw [h1] at h2; cases h2
 have lapart:∀ {l:List (Nat×List AV)} {t1 t2:Nat} {cs:List AV},lookL (setL l t1 cs) t2=none→t1≠t2∧lookL l t2=none:=by
  intro l t1 t2 cs h
  have hne:t1≠t2:=by intro e; subst e; rw [lookL_setL_same] at h; cases h
  exact ⟨hne,by rwa [lookL_setL_ne _ _ _ _ hne] at h⟩
 cases kj <;> cases ki <;> simp only [kdPair,Bool.false_eq_true] at hk
 all_goals simp only [Beh] at bj bi
 -- pure
 ·obtain ⟨rfl,bj⟩:=bj; obtain ⟨rfl,bi⟩:=bi
  exact ⟨rfl,rfl,rfl,l,m,bi _ (ai' _ _ _ _),bj _ (aj _ _)⟩
 ·obtain ⟨rfl,bj⟩:=bj; obtain ⟨rfl,_,bi⟩:=bi
  exact ⟨rfl,rfl,rfl,l,m,bi _ (ai' _ _ _ _) (MExt.of_eq rfl) (fun _ _ h=>h),bj _ (aj _ _)⟩
 ·obtain ⟨rfl,bj⟩:=bj; obtain ⟨t1,cs,h1,rfl,bi⟩:=bi
  exact ⟨rfl,rfl,rfl,setL l t1 cs,m,bi _ (ai' _ _ _ _) h1,bj _ (aj _ _)⟩
 ·obtain ⟨rfl,bj⟩:=bj; obtain ⟨m1,rfl,bi⟩:=bi
  exact ⟨rfl,rfl,rfl,l,m1,bi _ (ai' _ _ _ _) rfl,bj _ (aj _ _)⟩
 ·obtain ⟨rfl,bj⟩:=bj; obtain ⟨l1,m1,rfl,bi⟩:=bi
  exact ⟨rfl,rfl,rfl,l1,m1,bi _ (ai' _ _ _ _) rfl rfl,bj _ (aj _ _)⟩
 ·obtain ⟨rfl,bj⟩:=bj; obtain ⟨m1,rfl,_,bi⟩:=bi
  exact ⟨rfl,rfl,rfl,l,m1,bi _ (ai' _ _ _ _) rfl,bj _ (aj _ _)⟩
 -- read
 ·obtain ⟨rfl,_,bj⟩:=bj; obtain ⟨rfl,bi⟩:=bi
  exact ⟨rfl,rfl,rfl,l,m,bi _ (ai' _ _ _ _),bj _ (aj _ _) (MExt.of_eq rfl) (fun _ _ h=>h)⟩
 ·obtain ⟨rfl,_,bj⟩:=bj; obtain ⟨rfl,_,bi⟩:=bi
  exact ⟨rfl,rfl,rfl,l,m,bi _ (ai' _ _ _ _) (MExt.of_eq rfl) (fun _ _ h=>h),bj _ (aj _ _) (MExt.of_eq rfl) (fun _ _ h=>h)⟩
 ·obtain ⟨rfl,_,bj⟩:=bj; obtain ⟨t1,cs,h1,rfl,bi⟩:=bi
  exact ⟨rfl,rfl,rfl,setL l t1 cs,m,bi _ (ai' _ _ _ _) h1,bj _ (aj _ _) (MExt.of_eq rfl) (fun _ _ h=>lset h1 h)⟩
 ·obtain ⟨rfl,bj,_⟩:=bj; obtain ⟨m1,rfl,bi⟩:=bi
  obtain ⟨t1,c,h1,bj⟩:=bj hk
  exact ⟨rfl,rfl,rfl,l,m1,bi _ (ai' _ _ _ _) rfl,bj _ (aj _ _) h1⟩
 ·obtain ⟨rfl,_,bj⟩:=bj; obtain ⟨m1,rfl,h0,bi⟩:=bi
  exact ⟨rfl,rfl,rfl,l,m1,bi _ (ai' _ _ _ _) rfl,bj _ (aj _ _) h0 (fun _ _ h=>h)⟩
 -- newl
 ·obtain ⟨t1,cs,h1,rfl,bj⟩:=bj; obtain ⟨rfl,bi⟩:=bi
  exact ⟨rfl,rfl,rfl,l,m,bi _ (ai' _ _ _ _),bj _ (aj _ _) h1⟩
 ·obtain ⟨t1,cs,h1,rfl,bj⟩:=bj; obtain ⟨t2,cs2,h2,rfl,bi⟩:=bi
  obtain ⟨hne,h3⟩:=lapart h2
  refine ⟨rfl,rfl,rfl,setL l t2 cs2,m,bi _ (ai' _ _ _ _) h3,?_⟩
  have:=bj { n:=n,t:=putT t i.1.dst vi,l:=setL l t2 cs2,m:=m } (aj _ _) (by rw [lookL_setL_ne _ _ _ _ (Ne.symm hne)]; exact h1)
  rw [this,setL_comm l cs2 cs (Ne.symm hne)]
 ·obtain ⟨t1,cs,h1,rfl,bj⟩:=bj; obtain ⟨m1,rfl,bi⟩:=bi
  exact ⟨rfl,rfl,rfl,l,m1,bi _ (ai' _ _ _ _) rfl,bj _ (aj _ _) h1⟩
 ·obtain ⟨t1,cs,h1,rfl,bj⟩:=bj; obtain ⟨m1,rfl,_,bi⟩:=bi
  exact ⟨rfl,rfl,rfl,l,m1,bi _ (ai' _ _ _ _) rfl,bj _ (aj _ _) h1⟩
 -- mem
 ·obtain ⟨m1,rfl,bj⟩:=bj; obtain ⟨rfl,bi⟩:=bi
  exact ⟨rfl,rfl,rfl,l,m,bi _ (ai' _ _ _ _),bj _ (aj _ _) rfl⟩
 ·obtain ⟨m1,rfl,bj⟩:=bj; obtain ⟨rfl,bi,_⟩:=bi
  obtain ⟨t1,c,h1,bi⟩:=bi hk
  exact ⟨rfl,rfl,rfl,l,m,bi _ (ai' _ _ _ _) h1,bj _ (aj _ _) rfl⟩
 ·obtain ⟨m1,rfl,bj⟩:=bj; obtain ⟨t2,cs2,h2,rfl,bi⟩:=bi
  exact ⟨rfl,rfl,rfl,setL l t2 cs2,m,bi _ (ai' _ _ _ _) h2,bj _ (aj _ _) rfl⟩
 -- store
 ·obtain ⟨l1,m1,rfl,bj⟩:=bj; obtain ⟨rfl,bi⟩:=bi
  exact ⟨rfl,rfl,rfl,l,m,bi _ (ai' _ _ _ _),bj _ (aj _ _) rfl rfl⟩
 -- newm
 ·obtain ⟨m1,rfl,_,bj⟩:=bj; obtain ⟨rfl,bi⟩:=bi
  exact ⟨rfl,rfl,rfl,l,m,bi _ (ai' _ _ _ _),bj _ (aj _ _) rfl⟩
 ·obtain ⟨m1,rfl,_,bj⟩:=bj; obtain ⟨t2,cs2,h2,rfl,bi⟩:=bi
  exact ⟨rfl,rfl,rfl,setL l t2 cs2,m,bi _ (ai' _ _ _ _) h2,bj _ (aj _ _) rfl⟩
def FlagOk (o:AOper×Bool):Prop:=(o.2=true→o.1.op.kd=.newl∨o.1.op.kd=.read)∧(o.1.op.kd=.newl→o.2=true)
theorem kdPair_pure {kj ki kj' ki':Kd} {fj fi:Bool} (h:kdPair kj ki fj fi=true) (hj:kj'=kj∨kj'=.pure) (hi:ki'=ki∨ki'=.pure):kdPair kj' ki' fj fi=true:=by
 rcases hj with rfl | rfl <;> rcases hi with rfl | rfl
 ·exact h
 ·cases kj' <;> rfl
 ·rfl
 ·rfl
theorem beh_t {call:Caller} {o:AOper×Bool} {s s1:St} {v:AV} {k:Kd} (b:Beh call o s v s1 k):s1.t=s.t∧s1.n=s.n:=by
 cases k <;> simp only [Beh] at b
 ·rw [b.1]; exact ⟨rfl,rfl⟩
 ·rw [b.1]; exact ⟨rfl,rfl⟩
 ·obtain ⟨_,_,_,rfl,_⟩:=b; exact ⟨rfl,rfl⟩
 ·obtain ⟨_,rfl,_⟩:=b; exact ⟨rfl,rfl⟩
 ·obtain ⟨_,_,rfl,_⟩:=b; exact ⟨rfl,rfl⟩
 ·obtain ⟨_,rfl,_⟩:=b; exact ⟨rfl,rfl⟩
theorem accOf_alike {g:Bool} {o:AOper} {s s' s1 s1':St} (h:Alike s s' o.ts) (hm:o.op.kd=.mem→s'.m=s.m∧s1'.m=s1.m):accOf g o s' s1'=accOf g o s s1:=by
 unfold accOf
 rw [guard_alike h,acc_alike (o:=o.op) (fun t ht=>h t (List.mem_append_right _ ht))]
 by_cases hk:o.op.kd=.mem
 ·rw [(hm hk).1,(hm hk).2]
 ·simp only [if_neg hk]
theorem eqL_spec {e:AV→AV→Bool} (he:∀ x y,e x y=true→x=y):∀ {l q:List AV},eqL e l q=true→l=q
 | [],[],_=>rfl
 | x::r,y::q,h=>by
  simp only [eqL,Bool.and_eq_true] at h
  rw [he x y h.1,eqL_spec he h.2]
 | [],_::_,h=>by simp [eqL] at h
 | _::_,[],h=>by simp [eqL] at h
theorem eqV_spec:∀ (n:Nat) (x y:AV),eqV n x y=true→x=y
 | 0,_,_,h=>by simp [eqV] at h
 | n+1,x,y,h=>by
  have ih:=eqV_spec n
  unfold eqV at h
  split at h <;> (try simp only [Bool.and_eq_true,beq_iff_eq,decide_eq_true_eq] at h) <;> try rfl
  ·rw [h]
  ·rw [h.1,h.2]
  ·rw [h]
  ·rw [h.1,h.2]
  ·obtain ⟨⟨⟨⟨rfl,rfl⟩,rfl⟩,rfl⟩,rfl⟩:=h; rfl
  ·rw [h]
  ·rw [h.1,eqL_spec ih h.2]
  ·rw [eqL_spec ih h]
  ·rw [eqL_spec ih h]
  ·rw [h.1,h.2]
  ·rw [h.1,ih _ _ h.2]
  ·cases h
theorem sameRead_spec {s s':St} {x:AV} {k:Nat} (h:sameRead s.m s'.m x k=true) (hl:s'.l=s.l):s'.read x k=s.read x k:=by
 unfold sameRead at h
 split at h
 ·simp only [St.read,hl]
 ·split at h
  ·rename_i c _ c' _ h1 h2
   split at h
   ·rename_i l l' h3 h4
    simp only [St.read,h1,h2,h3,h4]
    rw [eqL_spec (eqV_spec 4) h]
   ·cases h
  ·cases h
 ·cases h
theorem beh_rs {call:Caller} {o:AOper×Bool} {s s1:St} {v:AV} (_hf:FlagOk o) (he:core call o s=some (v,s1)) (hg:guardEv o.1.guard s=some true):
  (o.1.op.kd=.read→s1=s∧∃ x k,(∀ s1,accOf true o.1 s s1=[.rw x k false])∧∀ s':St,Alike s s' o.1.ts→s'.read x k=s.read x k→core call o s'=some (v,s'))∧
  (o.1.op.kd=.store→∃ x k,(∀ s1,accOf true o.1 s s1=[.rw x k true])∧∀ y k',disj x k y k'=true→s1.read y k'=s.read y k'):=by
 have hop:∀ {s':St},Alike s s' o.1.ts→Alike s s' o.1.op.ts:=fun h t ht=>h t (List.mem_append_right _ ht)
 unfold core at he
 rw [hg] at he
 dsimp only at he
 split at he
 ·cases he
 ·rename_i hc
  refine ⟨fun hk=>?_,fun hk=>?_⟩
  ·obtain ⟨h1,x,k,h2,h3⟩:=op_readAt hk he
   refine ⟨h1,x,k,fun _=>by simp [accOf,hg,h2,hk],fun s' h hr=>?_⟩
   unfold core
   rw [guard_alike h,hg]
   dsimp only
   rw [care_alike hk (hop h),if_neg hc]
   exact h3 s' (hop h) hr
  ·obtain ⟨x,k,h2,h3⟩:=op_storAt hk he
   exact ⟨x,k,fun _=>by simp [accOf,hg,h2,hk],h3⟩
theorem guard_core {call:Caller} {o:AOper×Bool} {s s1:St} {v:AV} (he:core call o s=some (v,s1)):guardEv o.1.guard s=some true∨guardEv o.1.guard s=some false:=by
 unfold core at he
 split at he
 ·left; assumption
 ·right; assumption
 ·cases he
theorem beh_false {call:Caller} {o:AOper×Bool} {s s1:St} {v:AV} (he:core call o s=some (v,s1)) (hg:guardEv o.1.guard s=some false):Beh call o s v s1 .pure:=by
 unfold core at he
 rw [hg] at he
 simp only [Option.some.injEq,Prod.mk.injEq] at he
 obtain ⟨rfl,rfl⟩:=he
 refine ⟨rfl,fun s' h=>?_⟩
 unfold core
 rw [guard_alike h,hg]
def DisjL (l l':List Acc):Prop:=∀ a∈l,∀ b∈l',accFit a b=true
theorem beh_m {call:Caller} {o:AOper×Bool} {s s1:St} {v:AV} {k:Kd} (b:Beh call o s v s1 k) (hk:k=.pure∨k=.read∨k=.newl):s1.m=s.m:=by
 rcases hk with rfl | rfl | rfl <;> simp only [Beh] at b
 ·rw [b.1]
 ·rw [b.1]
 ·obtain ⟨_,_,_,rfl,_⟩:=b; rfl
theorem pair_mem {j i:Bool×AOper×Bool} (hp:pairOk j i=true):(j.2.1.op.kd=.mem→i.2.1.op.kd=.pure∨i.2.1.op.kd=.read∨i.2.1.op.kd=.newl)∧(i.2.1.op.kd=.mem→j.2.1.op.kd=.pure∨j.2.1.op.kd=.read∨j.2.1.op.kd=.newl):=by
 simp only [pairOk,Bool.and_eq_true,Bool.or_eq_true] at hp
 obtain ⟨⟨hk,_⟩,_⟩:=hp
 refine ⟨fun h=>?_,fun h=>?_⟩
 ·rw [h] at hk
  cases hq:i.2.1.op.kd <;> simp [kdPair,rsPair,hq] at hk ⊢
 ·rw [h] at hk
  cases hq:j.2.1.op.kd <;> simp [kdPair,rsPair,hq] at hk ⊢
theorem core_m {call:Caller} {o:AOper×Bool} {s s1:St} {v:AV} (hf:FlagOk o) (he:core call o s=some (v,s1)) (hk:o.1.op.kd=.pure∨o.1.op.kd=.read∨o.1.op.kd=.newl):s1.m=s.m:=by
 obtain ⟨k,hk',b⟩:=beh hf.1 hf.2 he
 refine beh_m b ?_
 rcases hk' with rfl | rfl
 ·exact hk
 ·exact .inl rfl
theorem swap {call:Caller} {i j:Bool×AOper×Bool} {s s2 s4:St} (fi:FlagOk i.2) (fj:FlagOk j.2) (hp:pairOk j i=true) (h1:dOneEv call j.2 s=some s2) (h2:dOneEv call i.2 s2=some s4)
  (hd:DisjL (accOf j.1 j.2.1 s s2) (accOf i.1 i.2.1 s2 s4)) (hd':DisjL (accOf i.1 i.2.1 s2 s4) (accOf j.1 j.2.1 s s2)):
  ∃ s',dOneEv call i.2 s=some s'∧dOneEv call j.2 s'=some s4∧accOf i.1 i.2.1 s s'=accOf i.1 i.2.1 s2 s4∧accOf j.1 j.2.1 s' s4=accOf j.1 j.2.1 s s2:=by
 have hpm:=pair_mem hp
 simp only [pairOk,Bool.and_eq_true,Bool.or_eq_true] at hp
 obtain ⟨⟨hk,ha1⟩,ha2⟩:=hp
 rw [dOne_core] at h1 h2
 split at h1
 ·rename_i vj s1 hcj
  split at h2
  ·rename_i vi s3 hci
   obtain ⟨rfl,hb1⟩:=put_iff.1 h1
   obtain ⟨rfl,hb2⟩:=put_iff.1 h2
   obtain ⟨kj,hkj,bj⟩:=beh fj.1 fj.2 hcj
   obtain ⟨ki,hki,bi⟩:=beh fi.1 fi.2 hci
   obtain ⟨tj,nj⟩:=beh_t bj
   have ai:Alike { s1 with t:=putT s1.t j.2.1.dst vj } s i.2.1.ts:=fun u hu=>by
    rw [look_putT ((apartO_spec ha1).1 u hu),tj]
   have core2:∃ l m,s3.t=putT s1.t j.2.1.dst vj∧s3.n=s.n∧core call i.2 s=some (vi,{ s with l:=l,m:=m })∧core call j.2 { s with t:=putT s.t i.2.1.dst vi,l:=l,m:=m }=some (vj,{ s3 with t:=putT s.t i.2.1.dst vi }):=by
    rcases hk with hk | hk
    ·obtain ⟨e1,e2,e3,l,m,c1,c2⟩:=swap_core (kdPair_pure hk hkj hki) ha2 ha1 bj bi
     exact ⟨l,m,e1,e3,c1,c2⟩
    ·obtain ⟨⟨gj,gi⟩,hrs⟩:=hk
     rw [gj] at hd hd'
     rw [gi] at hd hd'
     rcases guard_core hcj with wj | wj
     ·rcases guard_core hci with wi | wi
      ·have aj:∀ l m,Alike s { s with t:=putT s.t i.2.1.dst vi,l:=l,m:=m } j.2.1.ts:=fun l m u hu=>look_putT ((apartO_spec ha2).1 u hu)
       obtain ⟨rj,sj⟩:=beh_rs fj hcj wj
       obtain ⟨ri,si⟩:=beh_rs fi hci wi
       cases hkj':j.2.1.op.kd <;> cases hki':i.2.1.op.kd <;> simp only [rsPair,hkj',hki',Bool.false_eq_true] at hrs
       ·-- read,mem
        obtain ⟨rfl,x,k,q1,q2⟩:=rj hkj'
        rcases hki with hki | hki
        ·rw [hki,hki'] at bi
         simp only [Beh] at bi
         obtain ⟨m1,rfl,bi⟩:=bi
         have q3:∀ v:St,accOf true i.2.1 { s1 with t:=putT s1.t j.2.1.dst vj } v=[.eff s1.m v.m]:=fun v=>by simp [accOf,hki',wi]
         rw [q1,q3] at hd
         have hdis:=hd _ (List.mem_singleton.2 rfl) _ (List.mem_singleton.2 rfl)
         simp only [accFit] at hdis
         refine ⟨s1.l,m1,rfl,rfl,bi _ ai rfl,?_⟩
         have:=q2 { s1 with t:=putT s1.t i.2.1.dst vi,m:=m1 } (aj _ _) (sameRead_spec hdis rfl)
         exact this
        ·rw [hki] at bi
         obtain ⟨e1,e2,e3,l,m,c1,c2⟩:=swap_core (kj:=kj) (ki:=.pure) (j:=j.2) (i:=i.2) (by cases kj <;> rfl) ha2 ha1 bj bi
         exact ⟨l,m,e1,e3,c1,c2⟩
       ·-- read,store
        obtain ⟨rfl,x,k,q1,q2⟩:=rj hkj'
        obtain ⟨y,k',q3,q4⟩:=si hki'
        rw [q1,q3] at hd'
        have hdis:=hd' _ (List.mem_singleton.2 rfl) _ (List.mem_singleton.2 rfl)
        simp only [accFit,Bool.or_eq_true,beq_iff_eq,Bool.true_eq_false,false_or] at hdis
        rcases hki with hki | hki
        ·rw [hki,hki'] at bi
         simp only [Beh] at bi
         obtain ⟨l1,m1,rfl,bi⟩:=bi
         refine ⟨l1,m1,rfl,rfl,bi _ ai rfl rfl,?_⟩
         have:=q2 { s1 with t:=putT s1.t i.2.1.dst vi,l:=l1,m:=m1 } (aj _ _) (by
          have:=q4 x k hdis
          exact this)
         exact this
        ·rw [hki] at bi
         obtain ⟨l,m,c⟩:∃ l m,_:=⟨_,_,swap_core (kj:=kj) (ki:=.pure) (by cases kj <;> rfl) ha2 ha1 bj bi⟩
         obtain ⟨e1,e2,e3,l,m,c1,c2⟩:=swap_core (kj:=kj) (ki:=.pure) (j:=j.2) (i:=i.2) (by cases kj <;> rfl) ha2 ha1 bj bi
         exact ⟨l,m,e1,e3,c1,c2⟩
       ·-- mem,read
        obtain ⟨rfl,y,k',q3,q4⟩:=ri hki'
        rcases hkj with hkj | hkj
        ·rw [hkj,hkj'] at bj
         simp only [Beh] at bj
         obtain ⟨m1,rfl,bj⟩:=bj
         have q1:∀ v:St,accOf true j.2.1 s v=[.eff s.m v.m]:=fun v=>by simp [accOf,hkj',wj]
         rw [q3,q1] at hd
         have hdis:=hd _ (List.mem_singleton.2 rfl) _ (List.mem_singleton.2 rfl)
         simp only [accFit] at hdis
         refine ⟨s.l,s.m,rfl,rfl,q4 s ai (sameRead_spec (s:=s) (s':={ s with t:=putT s.t j.2.1.dst vj,m:=m1 }) hdis rfl).symm,bj _ (aj _ _) rfl⟩
        ·rw [hkj] at bj
         obtain ⟨e1,e2,e3,l,m,c1,c2⟩:=swap_core (kj:=.pure) (ki:=ki) (j:=j.2) (i:=i.2) rfl ha2 ha1 bj bi
         exact ⟨l,m,e1,e3,c1,c2⟩
       ·-- store,read
        obtain ⟨x,k,q1,q2⟩:=sj hkj'
        obtain ⟨rfl,y,k',q3,q4⟩:=ri hki'
        rw [q1,q3] at hd
        have hdis:=hd _ (List.mem_singleton.2 rfl) _ (List.mem_singleton.2 rfl)
        simp only [accFit,Bool.or_eq_true,beq_iff_eq,Bool.true_eq_false,false_or] at hdis
        rcases hkj with hkj | hkj
        ·rw [hkj,hkj'] at bj
         simp only [Beh] at bj
         obtain ⟨l1,m1,rfl,bj⟩:=bj
         refine ⟨s.l,s.m,rfl,rfl,q4 s ai (q2 y k' hdis).symm,bj _ (aj _ _) rfl rfl⟩
        ·rw [hkj] at bj
         obtain ⟨e1,e2,e3,l,m,c1,c2⟩:=swap_core (kj:=.pure) (ki:=ki) (j:=j.2) (i:=i.2) rfl ha2 ha1 bj bi
         exact ⟨l,m,e1,e3,c1,c2⟩
      ·obtain ⟨e1,e2,e3,l,m,c1,c2⟩:=swap_core (kj:=kj) (ki:=.pure) (j:=j.2) (i:=i.2) (by cases kj <;> rfl) ha2 ha1 bj (beh_false hci wi)
       exact ⟨l,m,e1,e3,c1,c2⟩
     ·obtain ⟨e1,e2,e3,l,m,c1,c2⟩:=swap_core (kj:=.pure) (ki:=ki) (j:=j.2) (i:=i.2) rfl ha2 ha1 (beh_false hcj wj) bi
      exact ⟨l,m,e1,e3,c1,c2⟩
   obtain ⟨l,m,e1,e3,c1,c2⟩:=core2
   refine ⟨{ s with t:=putT s.t i.2.1.dst vi,l:=l,m:=m },?_,?_,accOf_alike ai (fun hk=>⟨(core_m fj hcj (hpm.2 hk)).symm,(core_m fj c2 (hpm.2 hk)).symm⟩),?_⟩
   ·rw [dOne_core,c1]
    exact put_iff.2 ⟨rfl,fun x hx=>by have:=hb2 x hx; rw [e3] at this; exact this⟩
   ·rw [dOne_core,c2]
    refine put_iff.2 ⟨?_,fun x hx=>by have:=hb1 x hx; rw [nj] at this; exact (e3▸this)⟩
    dsimp only
    rw [e1,tj,putT_comm (apartO_spec ha1).2]
   ·exact accOf_alike (fun u hu=>look_putT ((apartO_spec ha2).1 u hu)) (fun hk=>⟨show m=s.m from core_m (s1:={ s with l:=l,m:=m }) fi c1 (hpm.1 hk),show s3.m=s1.m from core_m (s:={ s1 with t:=putT s1.t j.2.1.dst vj }) fi hci (hpm.1 hk)⟩)
  ·cases h2
 ·cases h1
end
end AG
