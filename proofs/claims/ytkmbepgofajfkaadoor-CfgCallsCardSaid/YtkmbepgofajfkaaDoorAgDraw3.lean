/- The abstract machine, part 14: the region that draws its order. -/
import Derived.Test.YtkmbepgofajfkaaDoorAgLazy
namespace AG
noncomputable section
open Go Go.RowKit
inductive Dep (ops:Array Oper):Nat→Nat→Prop where
 | one {i:Nat} {o:Oper} {e:Edge}:ops[i]?=some o→e∈o.after→Region.binds .any e=true→Dep ops e.on i
 | more {i j:Nat} {o:Oper} {e:Edge}:ops[i]?=some o→e∈o.after→Region.binds .any e=true→Dep ops j e.on→Dep ops j i
theorem testBit_shift (k j:Nat):(1 <<< k).testBit j=decide (k=j):=by
 rw [Nat.one_shiftLeft,Nat.testBit_two_pow]
theorem mem_depsOf {o:Oper} {d:Nat}:d∈depsOf o↔∃ e∈o.after,Region.binds .any e=true∧e.on=d:=by
 unfold depsOf
 simp only [List.mem_map,List.mem_filter,Array.mem_toList_iff]
 constructor
 ·rintro ⟨e,⟨h1,h2⟩,h3⟩; exact ⟨e,h1,h2,h3⟩
 ·rintro ⟨e,h1,h2,h3⟩; exact ⟨e,⟨h1,h2⟩,h3⟩
def MaskOk (ops:Array Oper) (acc:List (Nat×Nat)):Prop:=∀ k j,(lkM acc k).testBit j=true→Dep ops j k
theorem maskOf_spec {ops:Array Oper} {acc:List (Nat×Nat)} {i:Nat} {o:Oper} (ho:ops[i]?=some o) (hacc:MaskOk ops acc):
  ∀ (l:List Nat),(∀ d∈l,d∈depsOf o)→∀ j,(maskOf acc l).testBit j=true→Dep ops j i
 | [],_,j,h=>by simp [maskOf] at h
 | d::r,hl,j,h=>by
  unfold maskOf at h
  have hr:=maskOf_spec ho hacc r (fun e he=>hl e (List.mem_cons_of_mem _ he)) j
  obtain ⟨e,he,hb,rfl⟩:=mem_depsOf.1 (hl d (List.mem_cons_self ..))
  simp only [Nat.testBit_or,Bool.or_eq_true,testBit_shift,decide_eq_true_eq] at h
  rcases h with (h | h) | h
  ·exact .more ho he hb (hacc _ _ h)
  ·subst h; exact .one ho he hb
  ·exact hr h
theorem masks_spec {ops:Array Oper}:∀ (l:List Nat) (acc:List (Nat×Nat)),MaskOk ops acc→MaskOk ops (masks ops.toList l acc)
 | [],acc,h=>by simpa [masks] using h
 | i::r,acc,h=>by
  unfold masks
  split
  ·rename_i o ho
   refine masks_spec r _ (fun k j hk=>?_)
   simp only [lkM] at hk
   split at hk
   ·rename_i hik
    subst hik
    exact maskOf_spec (by rw [←Array.getElem?_toList]; exact ho) h _ (fun d hd=>hd) j hk
   ·exact h k j hk
  ·exact masks_spec r acc h
theorem flagged_spec (l:List AOper) (ms:List (Nat×Nat)):∀ (ord:List Nat),∀ x∈flagged l ms ord,l[x.1]?=some x.2.2.1
 | [],x,h=>by simp [flagged] at h
 | i::r,x,h=>by
  unfold flagged at h
  split at h
  ·rename_i o ho
   rcases List.mem_cons.1 h with h | h
   ·subst h; exact ho
   ·exact flagged_spec l ms r x h
  ·exact flagged_spec l ms r x h
def Bit (ms:List (Nat×Nat)) (a b:Nat):Prop:=(lkM ms b).testBit a=true
structure LazyR (ms:List (Nat×Nat)) (x y:DEl):Prop where
 lz:y.2.2.1.op.lazy=true
 a1:apartO x.2.2.1.dst y.2.2.1.ts y.2.2.1.dst=true
 a2:apartO y.2.2.1.dst x.2.2.1.ts x.2.2.1.dst=true
 wait:∀ k,Bit ms y.1 k→Bit ms x.1 k
structure PairR (ops:Array Oper) (ms:List (Nat×Nat)) (x y:DEl):Prop where
 ne:x.1≠y.1
 dep:∃ o,ops[x.1]?=some o∧y.1∉depsOf o
 nb:¬Bit ms y.1 x.1
 ok:Bit ms x.1 y.1∨pairOk x.2 y.2=true∨LazyR ms x y
theorem lkM_mem:∀ (ms:List (Nat×Nat)) (k:Nat),lkM ms k=0∨∃ p∈ms,p.2=lkM ms k
 | [],k=>.inl rfl
 | (i,m)::r,k=>by
  simp only [lkM]
  split
  ·exact .inr ⟨(i,m),List.mem_cons_self ..,rfl⟩
  ·rcases lkM_mem r k with h | ⟨p,hp,h⟩
   ·exact .inl h
   ·exact .inr ⟨p,List.mem_cons_of_mem _ hp,h⟩
theorem lazyOk_spec {ms:List (Nat×Nat)} {x y:DEl} (h:lazyOk ms x y=true):LazyR ms x y:=by
 simp only [lazyOk,Bool.and_eq_true,List.all_eq_true] at h
 obtain ⟨⟨⟨h1,h3⟩,h4⟩,h5⟩:=h
 refine ⟨h1,h3,h4,fun k hk=>?_⟩
 unfold Bit at hk ⊢
 rcases lkM_mem ms k with h | ⟨p,hp,h⟩
 ·rw [h] at hk; simp at hk
 ·have:=h5 p hp
  rw [h,hk] at this
  simpa using this
theorem pairsWith_spec {ops:Array Oper} {ms:List (Nat×Nat)} {x:DEl}:∀ (l:List DEl),pairsWith ops.toList ms x l=true→∀ y∈l,PairR ops ms x y
 | [],_,y,hy=>by cases hy
 | z::r,h,y,hy=>by
  simp only [pairsWith,Bool.and_eq_true,Bool.or_eq_true] at h
  obtain ⟨⟨⟨⟨h1,h2⟩,h5⟩,h3⟩,h4⟩:=h
  rcases List.mem_cons.1 hy with hy | hy
  ·subst hy
   refine ⟨by simpa using h1,?_,by unfold Bit; simpa using h5,?_⟩
   ·split at h2
    ·rename_i o ho
     exact ⟨o,by rw [←Array.getElem?_toList]; exact ho,by simpa using h2⟩
    ·cases h2
   ·rcases h3 with (h3 | h3) | h3
    ·exact .inl h3
    ·exact .inr (.inl h3)
    ·exact .inr (.inr (lazyOk_spec h3))
  ·exact pairsWith_spec r h4 y hy
theorem pairsAll_spec {ops:Array Oper} {ms:List (Nat×Nat)}:∀ (l:List DEl),pairsAll ops.toList ms l=true→l.Pairwise (PairR ops ms)
 | [],_=>List.Pairwise.nil
 | x::r,h=>by
  simp only [pairsAll,Bool.and_eq_true] at h
  exact List.Pairwise.cons (pairsWith_spec r h.1) (pairsAll_spec r h.2)
theorem PairR.apart {ops:Array Oper} {ms:List (Nat×Nat)} {x y:DEl} (h:PairR ops ms x y) (hn:¬Bit ms x.1 y.1):(∀ u∈y.2.2.1.ts,x.2.2.1.dst≠some u)∧(∀ u∈x.2.2.1.ts,y.2.2.1.dst≠some u)∧∀ d,x.2.2.1.dst=some d→y.2.2.1.dst≠some d:=by
 rcases h.ok with h1 | h1 | h1
 ·exact absurd h1 hn
 ·simp only [pairOk,Bool.and_eq_true] at h1
  obtain ⟨⟨_,h2⟩,h3⟩:=h1
  exact ⟨(apartO_spec h2).1,(apartO_spec h3).1,(apartO_spec h2).2⟩
 ·exact ⟨(apartO_spec h1.a1).1,(apartO_spec h1.a2).1,(apartO_spec h1.a1).2⟩
theorem selfOk_spec {n:Nat}:∀ (l:List Oper) (b:Nat),selfOk n b l=true→∀ (i:Nat) (o:Oper),l[i]?=some o→∀ d∈depsOf o,d≠b+i∧d < n
 | [],_,_,i,o,ho=>by simp at ho
 | y::r,b,h,i,o,ho=>by
  simp only [selfOk,Bool.and_eq_true,List.all_eq_true] at h
  cases i with
  | zero=>
   simp only [List.getElem?_cons_zero,Option.some.injEq] at ho
   subst ho
   intro d hd
   have:=h.1 d hd
   simpa using this
  | succ i=>
   intro d hd
   have:=selfOk_spec r (b+1) h.2 i o (by simpa using ho) d hd
   omega
theorem flagOkB_self {o:AOper×Bool} (h:flagOkB o=true) (hk:o.1.op.kd=.newm):∀ d,o.1.dst=some d→d∉o.1.ts:=by
 unfold flagOkB at h
 rw [hk] at h
 simp only [Bool.and_eq_true] at h
 exact fun d hd hm=>(apartO_spec h.2).1 d hm hd
theorem flagOkB_spec {o:AOper×Bool} (h:flagOkB o=true):FlagOk o:=by
 unfold flagOkB at h
 refine ⟨fun h2=>?_,fun hk=>?_⟩
 ·cases hk:o.1.op.kd <;> simp [hk,h2] at h ⊢
 ·simpa [hk] using h
structure DrawOk (P:Program) (H:Hints) (ops:Array Oper) (ms:List (Nat×Nat)) (el:List DEl):Prop where
 opn:∀ x∈el,∃ o,ops[x.1]?=some o∧x.2.2.1=trOper P H ops o
 flag:∀ x∈el,FlagOk x.2.2
 self:∀ (i:Nat) (o:Oper),ops[i]?=some o→∀ d∈depsOf o,d≠i∧d < ops.size
 pair:el.Pairwise (PairR ops ms)
 bits:∀ a b,Bit ms a b→Dep ops a b
 selfd:∀ x∈el,x.2.2.1.op.kd=.newm→∀ d,x.2.2.1.dst=some d→d∉x.2.2.1.ts
 all:∀ i,i < ops.size→∃ x∈el,x.1=i
theorem drawOf_spec {P:Program} {H:Hints} {ops:Array Oper} {el:List (Nat×Bool×AOper×Bool)} (h:drawOf ops.toList (ops.toList.map (trOper P H ops))=some el):∃ ms,DrawOk P H ops ms el:=by
 unfold drawOf at h
 dsimp only at h
 split at h
 ·rename_i hc
  simp only [Option.some.injEq] at h
  subst h
  simp only [Bool.and_eq_true,List.all_eq_true] at hc
  obtain ⟨⟨⟨h1,h2⟩,h3⟩,h4⟩:=hc
  refine ⟨_,fun x hx=>?_,fun o ho=>flagOkB_spec (h3 o ho),fun i o ho d hd=>?_,pairsAll_spec _ h4,fun a b h=>masks_spec _ _ (fun k j hk=>by simp [lkM] at hk) b a h,fun x hx=>flagOkB_self (h3 x hx),fun i hi=>?_⟩
  ·have:=flagged_spec _ _ _ x hx
   rw [List.getElem?_map,Option.map_eq_some_iff] at this
   obtain ⟨o,h5,h6⟩:=this
   exact ⟨o,by rw [←Array.getElem?_toList]; exact h5,h6.symm⟩
  ·have:=selfOk_spec ops.toList 0 h2 i o (by rw [Array.getElem?_toList]; exact ho) d hd
   simpa using this
  ·have:=h1 i (by simpa using hi)
   simpa using this
 ·cases h
def unl (el:List (Nat×Bool×AOper×Bool)) (listed:Array Bool):List (Nat×Bool×AOper×Bool):=el.filter fun x=>!listed.getD x.1 true
theorem front {call:Caller} {x:Nat×Bool×AOper×Bool} (fx:FlagOk x.2.2):∀ (a b:List (Nat×Bool×AOper×Bool)) (s s':St) (log:List Acc),(∀ y∈a,FlagOk y.2.2)→
  (∀ y∈a,pairOk y.2 x.2=true)→DisjL log log→dOpsEv call ((a++x::b).map (·.2)) s=some (s',log)→∃ s1 log',dOneEv call x.2.2 s=some s1∧dOpsEv call ((a++b).map (·.2)) s1=some (s',log')∧
   (∀ c,c∈log↔c∈accOf x.2.1 x.2.2.1 s s1∨c∈log')
 | [],b,s,s',log,_,_,_,h=>by
  simp only [List.nil_append,List.map_cons,dOpsEv] at h
  split at h
  ·rename_i s1 h1
   split at h
   ·rename_i s2 lg h2
    simp only [Option.some.injEq,Prod.mk.injEq] at h
    obtain ⟨rfl,rfl⟩:=h
    exact ⟨s1,lg,h1,h2,fun c=>List.mem_append⟩
   ·cases h
  ·cases h
 | y::a,b,s,s',log,hf,hp,hdl,h=>by
  simp only [List.cons_append,List.map_cons,dOpsEv] at h
  split at h
  ·rename_i s1 h1
   split at h
   ·rename_i s2' lg h2'
    simp only [Option.some.injEq,Prod.mk.injEq] at h
    obtain ⟨rfl,rfl⟩:=h
    obtain ⟨s2,lg',h2,h3,h4⟩:=front fx a b s1 s2' lg (fun j hj=>hf j (List.mem_cons_of_mem _ hj)) (fun j hj=>hp j (List.mem_cons_of_mem _ hj))
     (fun p hp q hq=>hdl p (List.mem_append_right _ hp) q (List.mem_append_right _ hq)) h2'
    have hx1:∀ c∈accOf x.2.1 x.2.2.1 s1 s2,c∈accOf y.2.1 y.2.2.1 s s1++lg:=fun c hc=>List.mem_append_right _ ((h4 c).2 (.inl hc))
    have hy1:∀ c∈accOf y.2.1 y.2.2.1 s s1,c∈accOf y.2.1 y.2.2.1 s s1++lg:=fun c hc=>List.mem_append_left _ hc
    obtain ⟨s3,h5,h6,h7,h8⟩:=swap fx (hf y (List.mem_cons_self ..)) (hp y (List.mem_cons_self ..)) h1 h2
     (fun p hp q hq=>hdl p (hy1 p hp) q (hx1 q hq)) (fun p hp q hq=>hdl p (hx1 p hp) q (hy1 q hq))
    refine ⟨s3,accOf y.2.1 y.2.2.1 s3 s2++lg',h5,?_,fun c=>?_⟩
    ·simp only [List.cons_append,List.map_cons,dOpsEv,h6,h3]
    ·rw [h7,h8,List.mem_append,List.mem_append,h4]
     constructor
     ·rintro (h | h | h)
      ·exact .inr (.inl h)
      ·exact .inl h
      ·exact .inr (.inr h)
     ·rintro (h | h | h)
      ·exact .inr (.inl h)
      ·exact .inl h
      ·exact .inr (.inr h)
   ·cases h
  ·cases h
theorem mem_unl {el:List (Nat×Bool×AOper×Bool)} {listed:Array Bool} {x:Nat×Bool×AOper×Bool}:x∈unl el listed↔x∈el∧listed.getD x.1 true=false:=by
 unfold unl
 simp [List.mem_filter]
theorem unl_set {el:List (Nat×Bool×AOper×Bool)} {listed:Array Bool} {i:Nat} (hi:listed.getD i true=false):unl el (listed.setIfInBounds i true)=(unl el listed).filter (fun x=>x.1 != i):=by
 unfold unl
 rw [List.filter_filter]
 congr 1
 funext x
 by_cases h:i=x.1
 ·have hlt:i < listed.size:=by
   rcases Nat.lt_or_ge i listed.size with h' | h'
   ·exact h'
   ·simp [Array.getElem?_eq_none h'] at hi
  subst h
  simp [hlt]
 ·rw [getD_set_ne true h]
  have:(x.1 != i)=true:=by simpa using fun e=>h e.symm
  simp [this]
def Closed (ops:Array Oper) (listed:Array Bool):Prop:=∀ k o,listed.getD k false=true→ops[k]?=some o→∀ e∈o.after,Region.binds .any e=true→listed.getD e.on false=true
theorem Dep.listed {ops:Array Oper} {listed:Array Bool} (hc:Closed ops listed) {j i:Nat} (h:Dep ops j i):(∀ o,ops[i]?=some o→∀ e∈o.after,Region.binds .any e=true→listed.getD e.on false=true)→listed.getD j false=true:=by
 induction h with
 | one ho he hb=>intro hh; exact hh _ ho _ he hb
 | more ho he hb _ ih=>intro hh; exact ih (fun o' ho'=>hc _ o' (hh _ ho _ he hb) ho')
theorem getD_bool {listed:Array Bool} {i:Nat} (h:listed.getD i true=false):listed.getD i false=false:=by
 cases hq:listed[i]? with
 | none=>simp [hq]
 | some b=>simp [hq] at h ⊢; exact h
theorem kd_lazy {o:AOp} (h:o.lazy=true):o.kd=.newm:=by
 cases o
 case alloc p z=>cases p with
  | some t=>simp [AOp.lazy] at h
  | none=>rfl
 case box p z=>cases p with
  | some t=>simp [AOp.lazy] at h
  | none=>rfl
 case mkslc=>rfl
 case make=>rfl
 all_goals simp [AOp.lazy] at h
structure Pend (P:Program) (ρ:Rho) (lam:Nat→Nat) (s:St) (a:Act) (w:World) (B:Nat) (y:DEl) (x:At):Prop where
 lz:y.2.2.1.op.lazy=true
 gd:guardEv y.2.2.1.guard s=some true
 own:∃ cs mk,newOf y.2.2.1.op s=some (cs,mk)∧BR ρ x w (.cells cs true)∧∀ (ρ2:Rho) (n2:Nat),ρ2[n2]?=some x→∀ d,y.2.2.1.dst=some d→VR ρ2 (mk n2) (a.tmps.getD d undef)
 new:B≤x.blk
 na:¬AliveS ρ lam s x.blk
 lt:x.blk < w.heap.size
structure Mid (P:Program) (call:Caller) (ops:Array Oper) (ms:List (Nat×Nat)) (el:List DEl) (ρ0:Rho) (lam0:Nat→Nat) (s0:St) (w0:World) (s':St) (listed:Array Bool) (X:Nat→At) (R:List DEl) (ρ:Rho) (lam:Nat→Nat) (s:St) (a:Act) (w:World):Prop where
 sr:SR P ρ lam s a w
 pair:R.Pairwise (PairR ops ms)
 sub:∀ y∈R,y∈el
 has:∀ y∈el,listed.getD y.1 true=false→y∈R
 pend:∀ y∈R,listed.getD y.1 true=true→Pend P ρ lam s a w w0.heap.size y (X y.1)
 apart:∀ y∈R,∀ z∈R,listed.getD y.1 true=true→listed.getD z.1 true=true→y.1≠z.1→(X y.1).blk≠(X z.1).blk
 nb:∀ y∈R,∀ z∈R,listed.getD z.1 true=true→¬Bit ms y.1 z.1
 run:∃ log,DisjL log log∧dOpsEv call (R.map (·.2)) s=some (s',log)
 le:ρ0.le ρ
 fr:Fr (OwnS ρ0 lam0 s0) (AliveS ρ0 lam0 s0) w0 (OwnS ρ lam s) (AliveS ρ lam s) w
section
variable {P:Program} {call:Caller} {H:Hints} {ops:Array Oper} {ms:List (Nat×Nat)} {el:List DEl} {ρ0:Rho} {lam0:Nat→Nat} {s0 s':St} {w0:World}
variable {listed:Array Bool} {X:Nat→At} {ρ:Rho} {lam:Nat→Nat} {s:St} {a:Act} {w:World}
theorem Mid.tell (hd:DrawOk P H ops ms el) {pre post:List DEl} {y:DEl} (h:Mid P call ops ms el ρ0 lam0 s0 w0 s' listed X (pre++y::post) ρ lam s a w) (hy:listed.getD y.1 true=true) (hp:∀ z∈pre,pairOk z.2 y.2=true):
  ∃ ρ1 s1,Mid P call ops ms el ρ0 lam0 s0 w0 s' listed X (pre++post) ρ1 lam s1 a w:=by
 have hyR:y∈pre++y::post:=by simp
 have hsubl:∀ z,z∈pre++post→z∈pre++y::post:=fun z hz=>by
  rcases List.mem_append.1 hz with hz | hz
  ·exact List.mem_append_left _ hz
  ·exact List.mem_append_right _ (List.mem_cons_of_mem _ hz)
 obtain ⟨log,hdl,hrun⟩:=h.run
 have fy:=hd.flag y (h.sub y hyR)
 obtain ⟨s1,log',h1,h2,h3⟩:=front fy pre post s s' log (fun z hz=>hd.flag z (h.sub z (List.mem_append_left _ hz))) hp hdl hrun
 obtain ⟨lz,gd,⟨cs,mk,hn,hb,hv⟩,hnew,hna,hlt⟩:=h.pend y hyR hy
 have hk:=kd_lazy lz
 have hf2:y.2.2.2=false:=by
  cases hq:y.2.2.2 with
  | false=>rfl
  | true=>rcases fy.1 hq with e | e <;> rw [hk] at e <;> cases e
 unfold dOneEv at h1
 rw [gd] at h1
 simp only [hf2,Bool.false_and,Bool.false_eq_true,if_false] at h1
 split at h1
 ·rename_i v sA hop
  obtain ⟨cs',mk',hn',hf,rfl,rfl⟩:=op_lazy lz hop
  rw [hn] at hn'; cases hn'
  have hnewi:(ρ++[X y.1])[s.m.n]?=some (X y.1):=by rw [←h.sr.mem.len]; simp
  have hA:=h.sr.pushAt hf hb hna
  have hs1:=hA.again (fun t ht=>hv _ _ hnewi t ht) h1
  obtain ⟨m1,m2,m3⟩:=put_m h1
  have alv:∀ k,AliveS (ρ++[X y.1]) lam s1 k→AliveS ρ lam s k∨k=(X y.1).blk:=fun k hk=>by
   refine AliveS.push (b:=.cells cs true) h.sr hf ?_
   unfold AliveS at hk ⊢
   rw [m1,m2] at hk; exact hk
  have ow:∀ k,OwnS (ρ++[X y.1]) lam s1 k→OwnS ρ lam s k∨k=(X y.1).blk:=fun k hk=>by
   refine OwnS.push (b:=.cells cs true) h.sr hf ?_
   unfold OwnS at hk ⊢
   rw [m1,m2] at hk; exact hk
  have hle:ρ.le (ρ++[X y.1]):=Rho.le_append _ _
  have hpw:=List.pairwise_append.1 h.pair
  have hpw2:=List.pairwise_cons.1 hpw.2.1
  -- whoever waits with it looks not at it
  have hap:∀ z∈pre++post,listed.getD z.1 true=true→(∀ u∈z.2.2.1.ts,y.2.2.1.dst≠some u)∧y.1≠z.1:=by
   intro z hz hzl
   rcases List.mem_append.1 hz with hz' | hz'
   ·have hpr:=hpw.2.2 z hz' y (List.mem_cons_self ..)
    exact ⟨(hpr.apart (h.nb z (hsubl z hz) y hyR hy)).2.1,fun e=>hpr.ne e.symm⟩
   ·have hpr:=hpw2.1 z hz'
    exact ⟨(hpr.apart (h.nb y hyR z (hsubl z hz) hzl)).1,hpr.ne⟩
  refine ⟨ρ++[X y.1],s1,hs1,?_,fun z hz=>h.sub z (hsubl z hz),fun z hz hzl=>?_,fun z hz hzl=>?_,fun z hz z' hz'=>h.apart z (hsubl z hz) z' (hsubl z' hz'),fun z hz z' hz'=>h.nb z (hsubl z hz) z' (hsubl z' hz'),
   ⟨log',fun p hp q hq=>hdl p ((h3 p).2 (.inr hp)) q ((h3 q).2 (.inr hq)),h2⟩,Rho.le_trans h.le hle,⟨h.fr.os,h.fr.tape,h.fr.output,h.fr.size,h.fr.keep,fun k hk=>?_,fun k hk=>?_,h.fr.drawn⟩⟩
  ·exact List.pairwise_append.2 ⟨hpw.1,hpw2.2,fun p hp q hq=>hpw.2.2 p hp q (List.mem_cons_of_mem _ hq)⟩
  ·have:=h.has z hz hzl
   rcases List.mem_append.1 this with hm | hm
   ·exact List.mem_append_left _ hm
   ·rcases List.mem_cons.1 hm with hm | hm
    ·subst hm; rw [hy] at hzl; cases hzl
    ·exact List.mem_append_right _ hm
  ·obtain ⟨q1,q2,⟨cs2,mk2,q3,q4,q5⟩,q6,q7,q8⟩:=h.pend z (hsubl z hz) hzl
   obtain ⟨hap1,hne⟩:=hap z hz hzl
   have hal:Alike s s1 z.2.2.1.ts:=by
    intro u hu
    obtain ⟨e1,_⟩:=put_iff.1 h1
    rw [e1]
    exact look_putT (hap1 u hu)
   refine ⟨q1,by rw [guard_alike hal]; exact q2,⟨cs2,mk2,?_,q4.mono hle,q5⟩,q6,fun hk=>?_,q8⟩
   ·rw [newOf_alike (s:=s) (fun u hu=>hal u (List.mem_append_right _ hu))]
    exact q3
   ·rcases alv _ hk with hk | hk
    ·exact q7 hk
    ·exact h.apart y hyR z (hsubl z hz) hy hzl hne hk.symm
  ·rcases ow k hk with hk | hk
   ·exact h.fr.own k hk
   ·exact .inr (by rw [hk]; exact hnew)
  ·rcases alv k hk with hk | hk
   ·exact h.fr.alive k hk
   ·exact .inr (by rw [hk]; exact hnew)
 ·cases h1
theorem first_of {α:Type} (B:α→Prop):∀ l:List α,(∀ y∈l,¬B y)∨∃ p y q,l=p++y::q∧B y∧∀ z∈p,¬B z
 | []=>.inl (fun y hy=>by cases hy)
 | x::l=>by
  by_cases hx:B x
  ·exact .inr ⟨[],x,l,rfl,hx,fun z hz=>by cases hz⟩
  ·rcases first_of B l with h | ⟨p,y,q,rfl,h1,h2⟩
   ·exact .inl (fun y hy=>by rcases List.mem_cons.1 hy with rfl | hy; exact hx; exact h y hy)
   ·exact .inr ⟨x::p,y,q,rfl,h1,fun z hz=>by rcases List.mem_cons.1 hz with rfl | hz; exact hx; exact h2 z hz⟩
theorem Mid.told (hd:DrawOk P H ops ms el) (hcl:Closed ops listed) {x:DEl} {o:Oper} (ho:ops[x.1]?=some o) (hall:∀ e∈o.after,Region.binds .any e=true→listed.getD e.on false=true):∀ (n:Nat) (pre post:List DEl) (ρ:Rho) (s:St),pre.length≤n→
  Mid P call ops ms el ρ0 lam0 s0 w0 s' listed X (pre++x::post) ρ lam s a w→∃ pre' ρ1 s1,Mid P call ops ms el ρ0 lam0 s0 w0 s' listed X (pre'++x::post) ρ1 lam s1 a w∧∀ y∈pre',¬Bit ms y.1 x.1:=by
 intro n
 induction n with
 | zero=>
  intro pre post ρ s hn h
  have:pre=[]:=List.length_eq_zero_iff.1 (by omega)
  subst this
  exact ⟨[],ρ,s,h,fun y hy=>by cases hy⟩
 | succ n ih=>
  intro pre post ρ s hn h
  rcases first_of (fun y:DEl=>Bit ms y.1 x.1) pre with h1 | ⟨p,y,q,rfl,h1,h2⟩
  ·exact ⟨pre,ρ,s,h,h1⟩
  ·have hyR:y∈p++y::q++x::post:=by simp
   have hl:listed.getD y.1 false=true:=(hd.bits _ _ h1).listed hcl (fun o' ho' e he hb=>by rw [ho] at ho'; cases ho'; exact hall e he hb)
   have hy:listed.getD y.1 true=true:=by
    cases hq:listed.getD y.1 true with
    | true=>rfl
    | false=>rw [getD_bool hq] at hl; cases hl
   have e:p++y::q++x::post=p++y::(q++x::post):=by simp
   rw [e] at h hyR
   have hpw:=List.pairwise_append.1 h.pair
   obtain ⟨ρ1,s1,hm⟩:=h.tell hd hy (fun z hz=>by
    have hpr:=hpw.2.2 z hz y (List.mem_cons_self ..)
    rcases hpr.ok with hb | hb | hb
    ·exact absurd hb (h.nb z (List.mem_append_left _ hz) y hyR hy)
    ·exact hb
    ·exact absurd (hb.wait _ h1) (h2 z hz))
   have e2:p++(q++x::post)=(p++q)++x::post:=by simp
   rw [e2] at hm
   exact ih (p++q) post ρ1 s1 (by simp at hn ⊢; omega) hm
theorem Mid.finish (hd:DrawOk P H ops ms el):∀ (R:List DEl) (ρ:Rho) (s:St),Mid P call ops ms el ρ0 lam0 s0 w0 s' listed X R ρ lam s a w→(∀ y∈R,listed.getD y.1 true=true)→Stands P ρ0 lam0 s0 w0 s' a w
 | [],ρ,s,h,_=>by
  obtain ⟨log,_,hr⟩:=h.run
  simp only [List.map_nil,dOpsEv,Option.some.injEq,Prod.mk.injEq] at hr
  obtain ⟨rfl,_⟩:=hr
  exact ⟨ρ,lam,h.sr,h.le,h.fr⟩
 | y::R,ρ,s,h,hl=>by
  obtain ⟨ρ1,s1,hm⟩:=Mid.tell (pre:=[]) hd h (hl y (List.mem_cons_self ..)) (fun z hz=>by cases hz)
  exact Mid.finish hd R ρ1 s1 hm (fun z hz=>hl z (List.mem_cons_of_mem _ hz))
end
section
variable {P:Program} {call:Caller} {H:Hints}
theorem any_ok {ops:Array Oper} {ms:List (Nat×Nat)} {el:List DEl} {ρ0:Rho} {lam0:Nat→Nat} {s0 s':St} {w0:World} {Q:Exit→Act→World→Prop} (hc:CallOk P call) (hd:DrawOk P H ops ms el):∀ (fuel:Nat) (listed:Array Bool) (X:Nat→At) (R:List DEl) (s:St) (ρ:Rho) (lam:Nat→Nat) (a:Act) (w:World),
  Mid P call ops ms el ρ0 lam0 s0 w0 s' listed X R ρ lam s a w→Closed ops listed→listed.size=ops.size→(unl el listed).length≤fuel→
  (∀ a' w',Stands P ρ0 lam0 s0 w0 s' a' w'→Q .normal a' w')→wpAny P .any ops Q fuel listed a w:=by
 have ready_unl:∀ listed i,i∈Region.ready .any ops listed→∃ x∈unl el listed,x.1=i:=by
  intro listed i hi
  obtain ⟨h0,o,ho,_⟩:=mem_ready.1 hi
  obtain ⟨x,hx,rfl⟩:=hd.all i (Array.getElem?_eq_some_iff.1 ho).1
  exact ⟨x,mem_unl.2 ⟨hx,h0⟩,rfl⟩
 have none_ready:∀ listed,listed.size=ops.size→Region.ready .any ops listed=[]→unl el listed=[]:=by
  intro listed hsz hr
  cases hu:unl el listed with
  | nil=>rfl
  | cons x rest=>
   exfalso
   have hx:x∈unl el listed:=by rw [hu]; exact List.mem_cons_self ..
   obtain ⟨hin,hun⟩:=mem_unl.1 hx
   have hs:(unl el listed).Pairwise (PairR ops ms):=List.Pairwise.filter _ hd.pair
   rw [hu,List.pairwise_cons] at hs
   obtain ⟨o,ho,_⟩:=hd.opn x hin
   have:x.1∈Region.ready .any ops listed:=by
    rw [mem_ready]
    refine ⟨hun,o,ho,fun e he hb=>?_⟩
    have hdep:e.on∈depsOf o:=mem_depsOf.2 ⟨e,he,hb,rfl⟩
    obtain ⟨hne,hlt⟩:=hd.self x.1 o ho e.on hdep
    cases hq:listed.getD e.on true with
    | false=>
     obtain ⟨y,hy,hye⟩:=hd.all e.on hlt
     have hm:y∈unl el listed:=mem_unl.2 ⟨hy,by rw [hye]; exact hq⟩
     rw [hu,List.mem_cons] at hm
     rcases hm with hm | hm
     ·subst hm; exact absurd hye.symm hne
     ·obtain ⟨o',ho',hnd⟩:=(hs.1 _ hm).dep
      rw [ho] at ho'
      cases ho'
      rw [hye] at hnd
      exact absurd hdep hnd
    | true=>
     have hb:e.on < listed.size:=by omega
     simp [hb] at hq ⊢
     exact hq
   rw [hr] at this
   cases this
 have all_listed:∀ listed (R:List DEl),(∀ y∈R,y∈el)→unl el listed=[]→∀ y∈R,listed.getD y.1 true=true:=by
  intro listed R hsub hu y hy
  cases hq:listed.getD y.1 true with
  | true=>rfl
  | false=>
   have:=mem_unl.2 ⟨hsub y hy,hq⟩
   rw [hu] at this
   cases this
 intro fuel
 induction fuel with
 | zero=>
  intro listed X R s ρ lam a w h hcl hsz hlen hk
  have hu:unl el listed=[]:=List.length_eq_zero_iff.1 (by omega)
  refine ⟨?_,hk a w (Mid.finish hd R ρ s h (all_listed listed R h.sub hu))⟩
  cases hr:Region.ready .any ops listed with
  | nil=>rfl
  | cons i r=>
   obtain ⟨x,hx,_⟩:=ready_unl listed i (by rw [hr]; exact List.mem_cons_self ..)
   rw [hu] at hx; cases hx
 | succ fuel ih=>
  intro listed X R s ρ lam a w h hcl hsz hlen hk
  refine ⟨fun hr=>hk a w (Mid.finish hd R ρ s h (all_listed listed R h.sub (none_ready listed hsz hr))),fun i hi=>?_⟩
  obtain ⟨h0,o,ho,hall⟩:=mem_ready.1 hi
  obtain ⟨x,hx,hxi⟩:=ready_unl listed i hi
  subst hxi
  have hxl:=(mem_unl.1 hx).2
  have hxel:=(mem_unl.1 hx).1
  obtain ⟨pre0,post,hR⟩:=List.append_of_mem (h.has x hxel hxl)
  subst hR
  obtain ⟨pre,ρ1,s1,hm,hnb⟩:=Mid.told hd hcl ho hall pre0.length pre0 post ρ s (Nat.le_refl _) h
  clear h
  obtain ⟨o',ho',hx1⟩:=hd.opn x hxel
  rw [ho] at ho'
  cases ho'
  have fx:=hd.flag x hxel
  have hxR:x∈pre++x::post:=by simp
  have hpw:=List.pairwise_append.1 hm.pair
  have hpw2:=List.pairwise_cons.1 hpw.2.1
  have hcl':Closed ops (listed.setIfInBounds x.1 true):=by
   intro k o' hk' ho' e he hb
   by_cases hik:x.1=k
   ·subst hik
    rw [ho] at ho'; cases ho'
    exact getD_set_true (hall e he hb)
   ·rw [getD_set_ne false hik] at hk'
    exact getD_set_true (hcl k o' hk' ho' e he hb)
  have hlen':(unl el (listed.setIfInBounds x.1 true)).length≤fuel:=by
   rw [unl_set hxl]
   have:((unl el listed).filter fun z=>z.1 != x.1).length < (unl el listed).length:=List.length_filter_lt_length_iff_exists.2 ⟨x,hx,by simp⟩
   omega
  have hlx:(listed.setIfInBounds x.1 true).getD x.1 true=true:=by
   have hlt:x.1 < listed.size:=by
    rcases Nat.lt_or_ge x.1 listed.size with h' | h'
    ·exact h'
    ·simp [Array.getElem?_eq_none h'] at hxl
   simp [hlt]
  have hlo:∀ z:DEl,z.1≠x.1→(listed.setIfInBounds x.1 true).getD z.1 true=listed.getD z.1 true:=fun z hz=>getD_set_ne true (fun e=>hz e.symm)
  -- whoever else is there is another
  have hother:∀ z∈pre++post,z.1≠x.1∧z∈pre++x::post:=by
   intro z hz
   rcases List.mem_append.1 hz with hz' | hz'
   ·exact ⟨(hpw.2.2 z hz' x (List.mem_cons_self ..)).ne,List.mem_append_left _ hz'⟩
   ·exact ⟨fun e=>(hpw2.1 z hz').ne e.symm,List.mem_append_right _ (List.mem_cons_of_mem _ hz')⟩
  -- whoever waits to be told looks not at it
  have hap:∀ z∈pre++post,listed.getD z.1 true=true→(∀ u∈z.2.2.1.ts,x.2.2.1.dst≠some u)∧(∀ d,z.2.2.1.dst=some d→x.2.2.1.dst≠some d):=by
   intro z hz hzl
   rcases List.mem_append.1 hz with hz' | hz'
   ·have hpr:=hpw.2.2 z hz' x (List.mem_cons_self ..)
    have:=hpr.apart (hnb z hz')
    exact ⟨this.2.1,this.2.2⟩
   ·have hpr:=hpw2.1 z hz'
    have:=hpr.apart (hm.nb x hxR z (hother z hz).2 hzl)
    exact ⟨this.1,fun d hd1 hd2=>this.2.2 d hd2 hd1⟩
  unfold wpOp
  rw [ho]
  dsimp only
  have hpre:∀ z∈pre,FlagOk z.2.2∧(∀ t∈x.2.2.1.ts,z.2.2.1.dst≠some t)∧(∀ u∈z.2.2.1.ts,x.2.2.1.dst≠some u)∧∀ d,z.2.2.1.dst=some d→x.2.2.1.dst≠some d:=by
   intro z hz
   have hpr:=(hpw.2.2 z hz x (List.mem_cons_self ..)).apart (hnb z hz)
   exact ⟨hd.flag z (hm.sub z (List.mem_append_left _ hz)),hpr.1,hpr.2.1,fun d hz' hd1=>hpr.2.2 d hz' hd1⟩
  by_cases hlazy:x.2.2.1.op.lazy=true∧guardEv x.2.2.1.guard s1=some true
  ·-- made,and told later
   obtain ⟨lz,gd⟩:=hlazy
   have hkx:=kd_lazy lz
   obtain ⟨log,hdl,hrun⟩:=hm.run
   obtain ⟨s2,s3,q1,q2,q3⟩:=mid pre post s1 s' log (fun z hz=>⟨(hpre z hz).1,(hpre z hz).2.1⟩) hrun
   have hf2:x.2.2.2=false:=by
    cases hq:x.2.2.2 with
    | false=>rfl
    | true=>rcases fx.1 hq with e | e <;> rw [hkx] at e <;> cases e
   unfold dOneEv at q1
   rw [guard_alike q2,gd] at q1
   simp only [hf2,Bool.false_and,Bool.false_eq_true,if_false] at q1
   split at q1
   case h_2=>cases q1
   rename_i v sA hop
   obtain ⟨cs,mk,hn,hf,rfl,rfl⟩:=op_lazy lz hop
   have hdn:∀ d,x.2.2.1.dst=some d→d < s1.n:=fun d hd1=>by
    obtain ⟨_,hb⟩:=put_iff.1 q1
    have:=hb d hd1
    rw [q3] at this; exact this
   rw [newOf_alike (s:=s1) (fun u hu=>q2 u (List.mem_append_right _ hu))] at hn
   -- the model's operation
   have htr:∃ ao,trOp P H o.dst o.op=some ao∧x.2.2.1.op=ao:=by
    rcases trOper_op (P:=P) (H:=H) (ops:=ops) (o:=o) with hbad | ⟨ao,h1,h2⟩
    ·rw [hx1,hbad] at lz; cases lz
    ·exact ⟨ao,h1,by rw [hx1]; exact h2⟩
   obtain ⟨ao,htr,hao⟩:=htr
   have hdst:x.2.2.1.dst=o.dst:=by rw [hx1]; exact trOper_dst
   have hwant:Region.wanted o (yielded ops a.tmps)=true:=wanted_ok (P:=P) (H:=H) (ops:=ops) hm.sr (by rw [←hx1]; intro e; rw [e] at lz; cases lz) (by rw [←hx1]; exact gd)
   rw [hao] at hn lz
   obtain ⟨r,rc,e,hex,hcs,hval⟩:=new_run (w:=w) htr lz hm.sr hn
   rw [if_pos hwant]
   left
   refine wp_value hex ?_
   have hold:∀ k,k < w.heap.size→(w.alloc (.cells rc e)).heap[k]?=w.heap[k]?:=fun k hk=>Below.heap_alloc w _ k hk
   have hcl2:cs.length=rc.size:=by have:=hcs.length; simpa using this.symm
   -- the state: its temporary is forgotten
   obtain ⟨s4,hs4,hs4m,hs4l,hs4t⟩:∃ s4,s1.put o.dst .unk=some s4∧s4.m=s1.m∧s4.l=s1.l∧s4.t=putT s1.t o.dst .unk:=by
    refine ⟨{ s1 with t:=putT s1.t o.dst .unk },put_iff.2 ⟨rfl,fun d hd1=>hdn d (by rw [hdst]; exact hd1)⟩,rfl,rfl,rfl⟩
   have hsr4:SR P ρ1 lam s4 (a.put o.dst r) (w.alloc (.cells rc e)):=(hm.sr.alloc _).put (by simp [VT,VR]) (fun t o e=>by cases e) hs4
   have alv:∀ k,AliveS ρ1 lam s4 k↔AliveS ρ1 lam s1 k:=fun k=>by unfold AliveS; rw [hs4m,hs4l]
   have ow:∀ k,OwnS ρ1 lam s4 k↔OwnS ρ1 lam s1 k:=fun k=>by unfold OwnS; rw [hs4m,hs4l]
   have halk:∀ (ts:List Nat),(∀ u∈ts,o.dst≠some u)→Alike s1 s4 ts:=fun ts hts u hu=>by
    rw [hs4t]; exact look_putT (hts u hu)
   have hrun4:dOpsEv call ((pre++x::post).map (·.2)) s4=some (s',log):=by
    obtain ⟨e4,_⟩:=put_iff.1 hs4
    cases hod:o.dst with
    | none=>rw [e4,hod]; simpa only [putT] using hrun
    | some d=>
     have hxd:x.2.2.1.dst=some d:=by rw [hdst,hod]
     have:=early_list (u:=.unk) fx hxd (hd.selfd x hxel hkx d hxd) pre post s1 s' log (fun z hz=>⟨(hpre z hz).1,fun hm'=>(hpre z hz).2.2.1 d hm' hxd,fun hz'=>(hpre z hz).2.2.2 d hz' hxd⟩) hrun
     rw [e4,hod]; simpa only [putT] using this
   have hselft:∀ u∈x.2.2.1.ts,o.dst≠some u:=fun u hu hd1=>hd.selfd x hxel hkx u (by rw [hdst]; exact hd1) hu
   have hput:∀ d,o.dst≠some d→(a.put o.dst r).tmps.getD d undef=a.tmps.getD d undef:=by
    intro d hd1
    unfold Act.put
    split
    ·rename_i d' hd2
     simp only [getD_set]
     rw [if_neg (fun hh=>hd1 (by rw [←hh.1]; exact hd2))]
    ·rfl
   refine ih (listed.setIfInBounds x.1 true) (fun k=>if k=x.1 then ⟨w.heap.size,0,rc.size,e⟩ else X k) (pre++x::post) s4 ρ1 lam (a.put o.dst r) (w.alloc (.cells rc e)) ?_ hcl' (by simpa using hsz) hlen' hk
   have hmem:∀ y∈pre++x::post,y=x∨(y∈pre++post):=fun y hy=>by
    rcases List.mem_append.1 hy with hy | hy
    ·exact .inr (List.mem_append_left _ hy)
    ·rcases List.mem_cons.1 hy with hy | hy
     ·exact .inl hy
     ·exact .inr (List.mem_append_right _ hy)
   refine ⟨hsr4,hm.pair,hm.sub,fun y hy hyl=>?_,fun y hy hyl=>?_,fun y hy z hz hyl hzl hne=>?_,fun y hy z hz hzl=>?_,⟨log,hdl,hrun4⟩,hm.le,?_⟩
   ·by_cases hyx:y.1=x.1
    ·rw [hyx,hlx] at hyl; cases hyl
    ·rw [hlo y hyx] at hyl; exact hm.has y hy hyl
   ·rcases hmem y hy with rfl | hy'
    ·rw [if_pos rfl]
     refine ⟨by rw [hao]; exact lz,by rw [guard_alike (s:=s1) (halk _ hselft)]; exact gd,⟨cs,mk,?_,?_,fun ρ2 n2 h2 d hd1=>?_⟩,hm.fr.size,fun hk'=>?_,by simp⟩
     ·rw [hao,newOf_alike (s:=s1) (halk _ (fun u hu=>hselft u (List.mem_append_right _ (by rw [hao]; exact hu))))]
      exact hn
     ·refine ⟨rc,e,(0,0),heap_alloc_new w _,?_,fun _=>⟨rfl,rfl,rfl⟩,by dsimp only; omega⟩
      rw [List.drop_zero,hcl2,←Array.length_toList,List.take_length]
      exact hcs
     ·have hod:o.dst=some d:=by rw [←hdst]; exact hd1
      have hb:d < a.tmps.size:=by rw [hm.sr.size]; exact hdn d hd1
      have:(a.put o.dst r).tmps.getD d undef=r:=by
       rw [hod]; simp [Act.put,hb]
      rw [this]; exact hval ρ2 n2 h2
     ·exact Nat.lt_irrefl _ (AliveS.lt hm.sr ((alv _).1 hk'))
    ·obtain ⟨hyx,_⟩:=hother y hy'
     rw [hlo y hyx] at hyl
     rw [if_neg hyx]
     obtain ⟨p1,p2,⟨cs2,mk2,p3,p4,p5⟩,p6,p7,p8⟩:=hm.pend y hy hyl
     obtain ⟨hap1,hap2⟩:=hap y hy' hyl
     rw [hdst] at hap1 hap2
     refine ⟨p1,by rw [guard_alike (s:=s1) (halk _ hap1)]; exact p2,⟨cs2,mk2,?_,p4.heap (hold _ p8),fun ρ2 n2 h2 d hd1=>?_⟩,p6,fun hk'=>p7 ((alv _).1 hk'),by simp; omega⟩
     ·rw [newOf_alike (s:=s1) (halk _ (fun u hu=>hap1 u (List.mem_append_right _ hu)))]; exact p3
     ·rw [hput d (hap2 d hd1)]; exact p5 ρ2 n2 h2 d hd1
   ·rcases hmem y hy with rfl | hy'
    ·rcases hmem z hz with rfl | hz'
     ·exact absurd rfl hne
     ·obtain ⟨hzx,_⟩:=hother z hz'
      rw [if_pos rfl,if_neg hzx]
      rw [hlo z hzx] at hzl
      have:=(hm.pend z hz hzl).lt
      dsimp only; omega
    ·obtain ⟨hyx,_⟩:=hother y hy'
     rw [hlo y hyx] at hyl
     rw [if_neg hyx]
     rcases hmem z hz with rfl | hz'
     ·rw [if_pos rfl]
      have:=(hm.pend y hy hyl).lt
      dsimp only; omega
     ·obtain ⟨hzx,_⟩:=hother z hz'
      rw [if_neg hzx]
      rw [hlo z hzx] at hzl
      exact hm.apart y hy z hz hyl hzl hne
   ·rcases hmem z hz with rfl | hz'
    ·rcases List.mem_append.1 hy with hy' | hy'
     ·exact hnb y hy'
     ·rcases List.mem_cons.1 hy' with rfl | hy'
      ·intro hb
       have hl:=(hd.bits _ _ hb).listed hcl (fun o' ho' e he hb=>by rw [ho] at ho'; cases ho'; exact hall e he hb)
       rw [getD_bool hxl] at hl; cases hl
      ·exact (hpw2.1 y hy').nb
    ·obtain ⟨hzx,_⟩:=hother z hz'
     rw [hlo z hzx] at hzl
     exact hm.nb y hy z hz hzl
   ·refine ⟨hm.fr.os,hm.fr.tape,hm.fr.output,Nat.le_trans hm.fr.size (by simp),fun k hk' hn'=>(hold k (Nat.lt_of_lt_of_le hk' hm.fr.size)).trans (hm.fr.keep k hk' hn'),fun k hk'=>hm.fr.own k ((ow k).1 hk'),fun k hk'=>hm.fr.alive k ((alv k).1 hk'),Nat.le_trans hm.fr.drawn (by first | exact Nat.le_refl _ | exact Nat.le_succ _ | simp)⟩
  ·-- carried out now
   obtain ⟨s2,log',hs2,he',hdl'⟩:∃ s2 log',dOneEv call x.2.2 s1=some s2∧dOpsEv call ((pre++post).map (·.2)) s2=some (s',log')∧DisjL log' log':=by
    obtain ⟨log,hdl,hrun⟩:=hm.run
    by_cases hf:guardEv x.2.2.1.guard s1=some false
    ·obtain ⟨s2,h1,_,h2⟩:=frontF (fun _ _=>trivial) pre post s1 s' log hpre hf hrun
     exact ⟨s2,log,h1,h2,hdl⟩
    ·have hgt:guardEv x.2.2.1.guard s1=some true:=by
      obtain ⟨s2,s3,q1,q2,q3⟩:=mid pre post s1 s' log (fun z hz=>⟨(hpre z hz).1,(hpre z hz).2.1⟩) hrun
      unfold dOneEv at q1
      rw [guard_alike q2] at q1
      split at q1
      ·assumption
      ·rename_i hq; exact absurd hq hf
      ·cases q1
     have hpair:∀ y∈pre,pairOk y.2 x.2=true:=by
      intro y hy
      rcases (hpw.2.2 y hy x (List.mem_cons_self ..)).ok with hp | hp | hp
      ·exact absurd hp (hnb y hy)
      ·exact hp
      ·exact absurd ⟨hp.lz,hgt⟩ hlazy
     obtain ⟨s2,log',hs2,he',hlog⟩:=front fx pre post s1 s' log (fun y hy=>hd.flag y (hm.sub y (List.mem_append_left _ hy))) hpair hdl hrun
     exact ⟨s2,log',hs2,he',fun p hp q hq=>hdl p ((hlog p).2 (.inr hp)) q ((hlog q).2 (.inr hq))⟩
   have hone:=dOne_one hs2
   rw [hx1] at hone
   obtain ⟨v,ht2,hn2⟩:=one_t fx hs2
   refine oper_put (P:=P) (H:=H) (ops:=ops) (o:=o) hc hm.sr hone (fun a' w' hst hput=>?_)
   obtain ⟨ρ2,lam2,q1,q2,q3⟩:=hst
   obtain ⟨r,hput⟩:=hput
   have hdst:x.2.2.1.dst=o.dst:=by rw [hx1]; exact trOper_dst
   have hget:∀ d,o.dst≠some d→a'.tmps.getD d undef=a.tmps.getD d undef:=by
    intro d hd1
    rw [hput]
    unfold Act.put
    split
    ·rename_i d' hd2
     simp only [getD_set]
     rw [if_neg (fun hh=>hd1 (by rw [←hh.1]; exact hd2))]
    ·rfl
   refine ih (listed.setIfInBounds x.1 true) X (pre++post) s2 ρ2 lam2 a' w' ⟨q1,?_,fun y hy=>hm.sub y (hother y hy).2,fun y hy hyl=>?_,fun y hy hyl=>?_,fun y hy z hz hyl hzl=>?_,fun y hy z hz hzl=>?_,
    ⟨log',hdl',he'⟩,Rho.le_trans hm.le q2,hm.fr.trans q3⟩ hcl' (by simpa using hsz) hlen' hk
   ·exact List.pairwise_append.2 ⟨hpw.1,hpw2.2,fun p hp q hq=>hpw.2.2 p hp q (List.mem_cons_of_mem _ hq)⟩
   ·have hyx:y.1≠x.1:=fun e=>by rw [e,hlx] at hyl; cases hyl
    rw [hlo y hyx] at hyl
    have:=hm.has y hy hyl
    rcases List.mem_append.1 this with h' | h'
    ·exact List.mem_append_left _ h'
    ·rcases List.mem_cons.1 h' with rfl | h'
     ·exact absurd rfl hyx
     ·exact List.mem_append_right _ h'
   ·obtain ⟨hyx,hyR⟩:=hother y hy
    rw [hlo y hyx] at hyl
    obtain ⟨p1,p2,⟨cs2,mk2,p3,p4,p5⟩,p6,p7,p8⟩:=hm.pend y hyR hyl
    obtain ⟨hap1,hap2⟩:=hap y hy hyl
    have hheap:=q3.keep _ p8 (fun ho'=>p7 ho'.alive)
    have hal:Alike s1 s2 y.2.2.1.ts:=fun u hu=>by rw [ht2]; exact look_putT (hap1 u hu)
    refine ⟨p1,by rw [guard_alike hal]; exact p2,⟨cs2,mk2,?_,(p4.heap hheap).mono q2,fun ρ3 n3 h3 d hd1=>?_⟩,p6,fun hk'=>?_,Nat.lt_of_lt_of_le p8 q3.size⟩
    ·rw [newOf_alike (s:=s1) (fun u hu=>by rw [ht2]; exact look_putT (hap1 u (List.mem_append_right _ hu)))]; exact p3
    ·rw [hget d (by rw [←hdst]; exact hap2 d hd1)]; exact p5 ρ3 n3 h3 d hd1
    ·rcases q3.alive _ hk' with h' | h'
     ·exact p7 h'
     ·omega
   ·rw [hlo y (hother y hy).1] at hyl
    rw [hlo z (hother z hz).1] at hzl
    exact hm.apart y (hother y hy).2 z (hother z hz).2 hyl hzl
   ·rw [hlo z (hother z hz).1] at hzl
    exact hm.nb y (hother y hy).2 z (hother z hz).2 hzl
theorem pairwise_len:∀ (n:Nat) (l:List Nat),l.Nodup→(∀ i∈l,i < n)→l.length≤n
 | 0,l,_,h=>by
  cases l with
  | nil=>simp
  | cons i r=>have:=h i (List.mem_cons_self ..); omega
 | n+1,l,h1,h2=>by
  by_cases hm:n∈l
  ·have:=pairwise_len n (l.erase n) (h1.erase n) (fun i hi=>by
    have h3:=(h1.mem_erase_iff).1 hi
    have:=h2 i h3.2
    have:=h3.1
    omega)
   rw [List.length_erase_of_mem hm] at this
   omega
  ·have:=pairwise_len n l h1 (fun i hi=>by
    have:=h2 i hi
    have:i≠n:=fun e=>hm (e▸hi)
    omega)
   omega
theorem draw_ok {id:Nat} {ops:Array Oper} {ms:List (Nat×Nat)} {el:List DEl} {Q:Exit→Act→World→Prop} (hm:P.follows .mixedOrders=true) (hc:CallOk P call) (hd:DrawOk P H ops ms el) {s s':St} {ρ:Rho} {lam:Nat→Nat} {a:Act} {w:World}
  (hs:SR P ρ lam s a w) {log:List Acc} (hlog:logOk log=true) (he:dOpsEv call (el.map (·.2)) s=some (s',log)) (hk:∀ a' w',Stands P ρ lam s w s' a' w'→Q .normal a' w'):(Code.region id ops true).wp P Q a w:=by
 refine wp_region_any hm ?_
 have hidx:∀ x∈el,x.1 < ops.size:=fun x hx=>by
  obtain ⟨o,ho,_⟩:=hd.opn x hx
  exact (Array.getElem?_eq_some_iff.1 ho).1
 have hun:∀ x∈el,(Array.replicate ops.size false).getD x.1 true=false:=fun x hx=>by
  simp [hidx x hx]
 have hu:unl el (Array.replicate ops.size false)=el:=by
  unfold unl
  refine List.filter_eq_self.2 fun x hx=>?_
  rw [hun x hx]; rfl
 have hlen:el.length≤ops.size:=by
  have hn:(el.map (·.1)).Nodup:=by
   rw [List.Nodup,List.pairwise_map]
   exact hd.pair.imp fun h=>h.ne
  have:=pairwise_len ops.size _ hn (fun i hi=>by
   obtain ⟨x,hx,rfl⟩:=List.mem_map.1 hi
   exact hidx x hx)
  simpa using this
 have hs':SR P ρ lam s a { w with drawn:=w.drawn+1 }:=
  ⟨hs.size,hs.defers,hs.tmp,hs.live,hs.loc,hs.linj,hs.lmem,⟨hs.mem.len,hs.mem.le,hs.mem.glob,fun i b hb=>by
   obtain ⟨x,h1,h2⟩:=hs.mem.blk i b hb
   exact ⟨x,h1,h2.heap rfl⟩,hs.mem.apart,hs.mem.tys⟩⟩
 refine any_ok (ρ0:=ρ) (lam0:=lam) (s0:=s) (w0:={ w with drawn:=w.drawn+1 }) hc hd ops.size _ (fun _=>⟨0,0,0,0⟩) el s ρ lam a _
  ⟨hs',hd.pair,fun _ h=>h,fun _ h _=>h,fun y hy hyl=>?_,fun y hy z hz hyl=>?_,fun y hy z hz hzl=>?_,⟨log,fun p hp q hq=>?_,he⟩,ρ.le_refl,Fr.refl _ _ _⟩ ?_ (by simp) ?_ (fun a' w' h=>?_)
 ·rw [hun y hy] at hyl; cases hyl
 ·rw [hun y hy] at hyl; cases hyl
 ·rw [hun z hz] at hzl; cases hzl
 ·have:=List.all_eq_true.1 (List.all_eq_true.1 hlog p hp) q hq
  simpa using this
 ·intro k o h
  exfalso
  rcases Nat.lt_or_ge k ops.size with h' | h'
  ·simp [h'] at h
  ·simp [Array.getElem?_eq_none (xs:=Array.replicate ops.size false) (by simpa using h')] at h
 ·rw [hu]; exact hlen
 ·obtain ⟨ρ',lam',h1,h2,h3⟩:=h
  exact hk a' w' ⟨ρ',lam',h1,h2,⟨h3.os,h3.tape,h3.output,h3.size,h3.keep,h3.own,h3.alive,Nat.le_trans (Nat.le_succ _) h3.drawn⟩⟩
end
end
end AG
