/- The abstract machine, part 12: operations that change places. -/
import Derived.Test.YtkmbepgofajfkaaDoorAgCode
import Derived.Orders
namespace AG
noncomputable section
open Go Go.RowKit
theorem setT_comm:∀ (l:List (Nat×AV)) {t u:Nat} (v x:AV),t≠u→setT (setT l t v) u x=setT (setT l u x) t v
 | [],t,u,v,x,h=>by
  have h':u≠t:=fun e=>h e.symm
  simp only [setT_nil,setT_cons,if_neg h,if_neg h']
  rcases Nat.lt_trichotomy t u with q | q | q
  ·rw [if_neg (by omega),if_pos q]
  ·exact absurd q h
  ·rw [if_pos q,if_neg (by omega)]
 | (y,z)::r,t,u,v,x,h=>by
  have h':u≠t:=fun e=>h e.symm
  have ih:=setT_comm r v x h
  by_cases h1:y=t
  ·subst h1
   by_cases h3:u < y
   ·simp [setT_cons,h,h',h3]; omega
   ·simp [setT_cons,h,h3]
  ·by_cases h2:y=u
   ·subst h2
    by_cases h3:t < y
    ·simp [setT_cons,h,h',h3]; omega
    ·simp [setT_cons,h',h3]
   ·by_cases h3:t < y <;> by_cases h4:u < y
    ·rcases Nat.lt_trichotomy t u with q | q | q
     ·have:¬u < t:=by omega
      simp [setT_cons,h,h',h1,h2,h3,h4,q,this]
     ·exact absurd q h
     ·have:¬t < u:=by omega
      simp [setT_cons,h,h',h1,h2,h3,h4,q,this]
    ·have:¬u < t:=by omega
     simp [setT_cons,h,h1,h2,h3,h4,this]
    ·have:¬t < u:=by omega
     simp [setT_cons,h',h1,h2,h3,h4,this]
    ·simp [setT_cons,h1,h2,h3,h4,ih]
theorem setL_comm:∀ (l:List (Nat×List AV)) {t u:Nat} (v x:List AV),t≠u→setL (setL l t v) u x=setL (setL l u x) t v
 | [],t,u,v,x,h=>by
  have h':u≠t:=fun e=>h e.symm
  simp only [setL_nil,setL_cons,if_neg h,if_neg h']
  rcases Nat.lt_trichotomy t u with q | q | q
  ·rw [if_neg (by omega),if_pos q]
  ·exact absurd q h
  ·rw [if_pos q,if_neg (by omega)]
 | (y,z)::r,t,u,v,x,h=>by
  have h':u≠t:=fun e=>h e.symm
  have ih:=setL_comm r v x h
  by_cases h1:y=t
  ·subst h1
   by_cases h3:u < y
   ·simp [setL_cons,h,h',h3]; omega
   ·simp [setL_cons,h,h3]
  ·by_cases h2:y=u
   ·subst h2
    by_cases h3:t < y
    ·simp [setL_cons,h,h',h3]; omega
    ·simp [setL_cons,h',h3]
   ·by_cases h3:t < y <;> by_cases h4:u < y
    ·rcases Nat.lt_trichotomy t u with q | q | q
     ·have:¬u < t:=by omega
      simp [setL_cons,h,h',h1,h2,h3,h4,q,this]
     ·exact absurd q h
     ·have:¬t < u:=by omega
      simp [setL_cons,h,h',h1,h2,h3,h4,q,this]
    ·have:¬u < t:=by omega
     simp [setL_cons,h,h1,h2,h3,h4,this]
    ·have:¬t < u:=by omega
     simp [setL_cons,h',h1,h2,h3,h4,this]
    ·simp [setL_cons,h1,h2,h3,h4,ih]
def Alike (s s':St) (ts:List Nat):Prop:=∀ t∈ts,look s'.t t=look s.t t
theorem Alike.left {s s':St} {l r:List Nat} (h:Alike s s' (l++r)):Alike s s' l:=fun t ht=>h t (List.mem_append_left _ ht)
theorem Alike.right {s s':St} {l r:List Nat} (h:Alike s s' (l++r)):Alike s s' r:=fun t ht=>h t (List.mem_append_right _ ht)
theorem Alike.opd {s s':St} {x:Opd} (h:Alike s s' x.ts):s'.opd x=s.opd x:=by
 cases x with
 | tmp t=>exact h t (by simp [Opd.ts])
 | val v=>rfl
theorem Alike.oopd {s s':St} {x:Option Opd} (h:Alike s s' (Opd.ots x)):x.map s'.opd=x.map s.opd:=by
 cases x with
 | none=>rfl
 | some x=>simp only [Option.map_some,Alike.opd (x:=x) h]
theorem Alike.list {s s':St}:∀ {l:List Opd},Alike s s' (l.flatMap Opd.ts)→l.map s'.opd=l.map s.opd
 | [],_=>rfl
 | x::r,h=>by
  rw [List.flatMap_cons] at h
  simp only [List.map_cons,h.left.opd,Alike.list h.right]
theorem Alike.list3 {s s':St}:∀ {l:List (Nat×Nat×Opd)},Alike s s' (l.flatMap fun p=>p.2.2.ts)→(l.map fun (o,k,x)=>(o,k,s'.opd x))=(l.map fun (o,k,x)=>(o,k,s.opd x))
 | [],_=>rfl
 | (o,k,x)::r,h=>by
  rw [List.flatMap_cons] at h
  simp only [List.map_cons,h.left.opd,Alike.list3 h.right]
theorem Alike.list2 {s s':St} {sz:Nat}:∀ {l:List (Nat×Opd)},Alike s s' (l.flatMap fun p=>p.2.ts)→(l.map fun (i,x)=>(i*sz,sz,s'.opd x))=(l.map fun (i,x)=>(i*sz,sz,s.opd x))
 | [],_=>rfl
 | (i,x)::r,h=>by
  rw [List.flatMap_cons] at h
  simp only [List.map_cons,h.left.opd,Alike.list2 h.right]
section
variable {call:Caller} {s s1 s':St} {v:AV} {o:AOp}
theorem op_pure (hk:o.kd=.pure) (he:opEv call o s=some (v,s1)):s1=s∧∀ s':St,Alike s s' o.ts→opEv call o s'=some (v,s'):=by
 cases o
 case alloc p z=>cases p <;> simp [AOp.kd] at hk
 case box p z=>cases p <;> simp [AOp.kd] at hk
 case mov x=>
  simp only [opEv,Option.some.injEq,Prod.mk.injEq] at he
  exact ⟨he.2.symm,fun s' h=>by simp only [opEv,Alike.opd (x:=x) h,he.1]⟩
 case pick c a b=>
  simp only [opEv] at he
  split at he
  ·rename_i t ht
   simp only [Option.some.injEq,Prod.mk.injEq] at he
   exact ⟨he.2.symm,fun s' h=>by simp only [opEv,h.left.opd,h.right.left.opd,h.right.right.opd,ht,he.1]⟩
  ·cases he
 case build z ps=>
  simp only [opEv] at he
  split at he
  ·rename_i c hc
   simp only [Option.some.injEq,Prod.mk.injEq] at he
   exact ⟨he.2.symm,fun s' h=>by simp only [opEv,Alike.list3 h,hc,he.1]⟩
  ·cases he
 case nilck x=>
  simp only [opEv] at he
  refine ⟨?_,fun s' h=>?_⟩
  ·split at he <;> simp_all
  ·simp only [opEv,Alike.opd (x:=x) h]
   split at he
   ·cases he
   ·cases he
   ·cases he
   ·cases he
   ·simp only [Option.some.injEq,Prod.mk.injEq] at he
    obtain ⟨rfl,rfl⟩:=he
    simp_all
 case bin op x y=>
  simp only [opEv,Option.map_eq_some_iff,Prod.mk.injEq] at he
  obtain ⟨q,h1,rfl,rfl⟩:=he
  exact ⟨rfl,fun s' h=>by simp only [opEv,h.left.opd,h.right.opd,h1,Option.map_some]⟩
 case eq neg k x y=>
  simp only [opEv,Option.map_eq_some_iff,Prod.mk.injEq] at he
  obtain ⟨q,h1,rfl,rfl⟩:=he
  exact ⟨rfl,fun s' h=>by simp only [opEv,h.left.opd,h.right.opd,h1,Option.map_some]⟩
 case un op x=>
  simp only [opEv,Option.map_eq_some_iff,Prod.mk.injEq] at he
  obtain ⟨q,h1,rfl,rfl⟩:=he
  exact ⟨rfl,fun s' h=>by simp only [opEv,Alike.opd (x:=x) h,h1,Option.map_some]⟩
 case conv k x=>
  simp only [opEv] at he
  split at he
  ·rename_i hx
   simp only [Option.some.injEq,Prod.mk.injEq] at he
   exact ⟨he.2.symm,fun s' h=>by simp only [opEv,Alike.opd (x:=x) h,hx,he.1]⟩
  ·cases he
 case mkfn f cs=>
  simp only [opEv] at he
  split at he
  ·cases he
  ·rename_i hx
   simp only [Option.some.injEq,Prod.mk.injEq] at he
   exact ⟨he.2.symm,fun s' h=>by simp only [opEv,Alike.list h,if_neg hx,he.1]⟩
 case slcS x lo hi=>
  simp only [opEv] at he
  split at he
  ·rename_i a hx
   split at he
   ·rename_i l h' m hb
    simp only [Option.some.injEq,Prod.mk.injEq] at he
    exact ⟨he.2.symm,fun s' h=>by simp only [opEv,h.left.opd,h.right.left.oopd,h.right.right.oopd,hx,hb,he.1]⟩
   ·cases he
  ·cases he
 case slcL sz x lo hi mx=>
  refine ⟨?_,fun s' h=>?_⟩
  ·simp only [opEv] at he
   repeat' split at he
   all_goals simp_all
  ·have e1:=h.left.opd
   have e2:=h.right.left.oopd
   have e3:=h.right.right.left.oopd
   have e4:=h.right.right.right.oopd
   have e5:∀ y,mx=some y→s'.opd y=s.opd y:=fun y hy=>by subst hy; simpa using e4
   simp only [opEv,e1,e2,e3,e4] at he ⊢
   cases mx with
   | none=>(repeat' split at he) <;> simp_all
   | some y=>
    dsimp only at he ⊢
    rw [e5 y rfl]
    (repeat' split at he) <;> simp_all
 case slcA n sz x lo hi mx=>
  refine ⟨?_,fun s' h=>?_⟩
  ·simp only [opEv] at he
   repeat' split at he
   all_goals simp_all
  ·simp only [opEv,h.left.opd,h.right.left.oopd,h.right.right.left.oopd,h.right.right.right.oopd] at he ⊢
   (repeat' split at he) <;> simp_all
 case faddr off x=>
  refine ⟨?_,fun s' h=>?_⟩
  ·simp only [opEv] at he
   repeat' split at he
   all_goals simp_all
   all_goals (obtain ⟨_,h1,rfl,rfl⟩:=he; rfl)
  ·simp only [opEv,Alike.opd (x:=x) h] at he ⊢
   (repeat' split at he) <;> simp_all
   all_goals (obtain ⟨_,h1,rfl,rfl⟩:=he; exact h1)
 case fld off k x=>
  refine ⟨?_,fun s' h=>?_⟩
  ·simp only [opEv] at he
   repeat' split at he
   all_goals simp_all
   all_goals (obtain ⟨_,h1,rfl,rfl⟩:=he; rfl)
  ·simp only [opEv,Alike.opd (x:=x) h] at he ⊢
   (repeat' split at he) <;> simp_all
   all_goals (obtain ⟨_,h1,rfl,rfl⟩:=he; exact h1)
 case iaddrL sz x i=>
  refine ⟨?_,fun s' h=>?_⟩
  ·simp only [opEv] at he
   repeat' split at he
   all_goals simp_all
   all_goals (obtain ⟨_,h1,rfl,rfl⟩:=he; rfl)
  ·simp only [opEv,h.left.opd,h.right.opd] at he ⊢
   (repeat' split at he) <;> simp_all
   all_goals (obtain ⟨_,h1,rfl,rfl⟩:=he; exact h1)
 case iaddrA n sz x i=>
  refine ⟨?_,fun s' h=>?_⟩
  ·simp only [opEv] at he
   repeat' split at he
   all_goals simp_all
   all_goals (obtain ⟨_,h1,rfl,rfl⟩:=he; rfl)
  ·simp only [opEv,h.left.opd,h.right.opd] at he ⊢
   (repeat' split at he) <;> simp_all
   all_goals (obtain ⟨_,h1,rfl,rfl⟩:=he; exact h1)
 case idxS x i=>
  refine ⟨?_,fun s' h=>?_⟩
  ·simp only [opEv] at he
   repeat' split at he
   all_goals simp_all
   all_goals (obtain ⟨_,h1,rfl,rfl⟩:=he; rfl)
  ·simp only [opEv,h.left.opd,h.right.opd] at he ⊢
   (repeat' split at he) <;> simp_all
   all_goals (obtain ⟨_,h1,rfl,rfl⟩:=he; exact h1)
 case idxA n sz agg x i=>
  refine ⟨?_,fun s' h=>?_⟩
  ·simp only [opEv] at he
   repeat' split at he
   all_goals simp_all
   all_goals (obtain ⟨_,h1,rfl,rfl⟩:=he; rfl)
  ·simp only [opEv,h.left.opd,h.right.opd] at he ⊢
   (repeat' split at he) <;> simp_all
   all_goals (obtain ⟨_,h1,rfl,rfl⟩:=he; exact h1)
 case ext x i=>
  refine ⟨?_,fun s' h=>?_⟩
  ·simp only [opEv] at he
   repeat' split at he
   all_goals simp_all
   all_goals (obtain ⟨_,h1,rfl,rfl⟩:=he; rfl)
  ·simp only [opEv,Alike.opd (x:=x) h] at he ⊢
   (repeat' split at he) <;> simp_all
   all_goals (obtain ⟨_,h1,rfl,rfl⟩:=he; exact h1)
 case lenS x=>
  refine ⟨?_,fun s' h=>?_⟩
  ·simp only [opEv] at he
   repeat' split at he
   all_goals simp_all
   all_goals (obtain ⟨_,h1,rfl,rfl⟩:=he; rfl)
  ·simp only [opEv,Alike.opd (x:=x) h] at he ⊢
   (repeat' split at he) <;> simp_all
   all_goals (obtain ⟨_,h1,rfl,rfl⟩:=he; exact h1)
 case lenL x=>
  refine ⟨?_,fun s' h=>?_⟩
  ·simp only [opEv] at he
   repeat' split at he
   all_goals simp_all
   all_goals (obtain ⟨_,h1,rfl,rfl⟩:=he; rfl)
  ·simp only [opEv,Alike.opd (x:=x) h] at he ⊢
   (repeat' split at he) <;> simp_all
   all_goals (obtain ⟨_,h1,rfl,rfl⟩:=he; exact h1)
 case max l=>
  refine ⟨?_,fun s' h=>?_⟩
  ·simp only [opEv] at he
   repeat' split at he
   all_goals simp_all
   all_goals (obtain ⟨_,h1,rfl,rfl⟩:=he; rfl)
  ·simp only [opEv,Alike.list h] at he ⊢
   (repeat' split at he) <;> simp_all
   all_goals (obtain ⟨_,h1,rfl,rfl⟩:=he; exact h1)
 case min l=>
  refine ⟨?_,fun s' h=>?_⟩
  ·simp only [opEv] at he
   repeat' split at he
   all_goals simp_all
   all_goals (obtain ⟨_,h1,rfl,rfl⟩:=he; rfl)
  ·simp only [opEv,Alike.list h] at he ⊢
   (repeat' split at he) <;> simp_all
   all_goals (obtain ⟨_,h1,rfl,rfl⟩:=he; exact h1)
 case xp k l=>
  simp only [opEv] at he
  split at he
  ·cases he
  ·rename_i hx
   simp only [Option.map_eq_some_iff,Prod.mk.injEq] at he
   obtain ⟨q,h1,rfl,rfl⟩:=he
   exact ⟨rfl,fun s' h=>by simp only [opEv,Alike.list h,if_neg hx,h1,Option.map_some]⟩
 case b2s x=>simp [opEv] at he
 case bad=>simp [opEv] at he
 all_goals first | (simp [AOp.kd] at hk; done) | (rename_i k l; cases k <;> simp [AOp.kd] at hk)
def MExt (m m':Mem):Prop:=∀ i b,m.get i=some b→m'.get i=some b
theorem MExt.of_eq {m m':Mem} (h:m'=m):MExt m m':=fun i b q=>by rw [h]; exact q
theorem read_lm {s s':St} {x:AV} {k:Nat} {c:List AV} (hl:∀ t c,lookL s.l t=some c→lookL s'.l t=some c) (hm:MExt s.m s'.m) (h:s.read x k=some c):s'.read x k=some c:=by
 cases x <;> simp only [St.read] at h ⊢ <;> try (exact h)
 ·split at h
  ·rename_i hb; rw [hm _ _ hb]; exact h
  ·cases h
 ·split at h
  ·rename_i c' hc; rw [hl _ _ hc]; exact h
  ·cases h
theorem read_loc {s s':St} {t off k:Nat} {c c':List AV} (hc:lookL s.l t=some c) (hc':lookL s'.l t=some c) (h:s.read (.loc t off) k=some c'):s'.read (.loc t off) k=some c':=by
 simp only [St.read,hc,hc'] at h ⊢; exact h
theorem elems_read (s:St) (b o n:Nat) (c:Option Nat) (e:Nat):elemsM s.m (.slice b o n c e) 1=if n=0 then some (0,[]) else (s.read (.ptr b o) n).map fun l=>(n,l):=by
 unfold elemsM AV.elems St.read
 by_cases hn:n=0
 ·simp [hn]
 ·simp only [hn,if_false,Nat.mul_one]
  cases s.m.get b with
  | none=>rfl
  | some q=>cases q with
   | cells c ow=>dsimp only; cases cellsAt c o n <;> rfl
   | _=>rfl
theorem b2s_spec {l:List Opd} (he:opEv call (.xm .b2s l) s=some (v,s1)):s1=s∧∃ x k,accEv (.xm .b2s l) s=some (.rw x k false)∧(∀ s':St,Alike s s' (l.flatMap Opd.ts)→s'.read x k=s.read x k→opEv call (.xm .b2s l) s'=some (v,s'))∧
  ∀ s':St,Alike s s' (l.flatMap Opd.ts)→MExt s.m s'.m→(∀ t c,lookL s.l t=some c→lookL s'.l t=some c)→opEv call (.xm .b2s l) s'=some (v,s'):=by
 match l with
 | []=>simp [opEv,callWith,xmEv] at he
 | _::_::_=>simp only [opEv,callWith,List.map_cons,xmEv] at he; split at he <;> simp at he
 | [x]=>
  have hal:∀ s':St,Alike s s' ([x].flatMap Opd.ts)→s'.opd x=s.opd x:=fun s' h=>Alike.opd (x:=x) (fun t ht=>h t (by simpa using ht))
  simp only [opEv,callWith,List.map_cons,List.map_nil,List.any_cons,List.any_nil,Bool.or_false] at he ⊢
  split at he
  ·cases he
  rename_i hl
  generalize hy:s.opd x=y at*
  have hrun:∀ s':St,s'.opd x=y→elemsM s'.m y 1=elemsM s.m y 1→(if (s'.opd x).isLoc=true then none else match xmEv .b2s [s'.opd x] s'.m with | some (v,m)=>some (v,{ s' with m:=m }) | none=>none)=some (v,s')∧s1=s:=by
   intro s' h1 h2
   rw [h1,if_neg hl]
   simp only [xmEv] at he ⊢
   rw [h2]
   cases hel:elemsM s.m y 1 with
   | none=>rw [hel] at he; simp at he
   | some q=>
    obtain ⟨n,c⟩:=q
    rw [hel] at he
    cases y <;> simp only [reduceCtorEq] at he ⊢
    case nils=>
     cases hb:bytesOf c with
     | none=>rw [hb] at he; simp at he
     | some b=>
      rw [hb] at he
      simp only [Option.some.injEq,Prod.mk.injEq] at he ⊢
      exact ⟨⟨he.1,trivial⟩,he.2.symm⟩
    case slice=>
     cases hb:bytesOf c with
     | none=>rw [hb] at he; simp at he
     | some b=>
      rw [hb] at he
      simp only [Option.some.injEq,Prod.mk.injEq] at he ⊢
      exact ⟨⟨he.1,trivial⟩,he.2.symm⟩
  have hs1:=(hrun s hy rfl).2
  refine ⟨hs1,?_⟩
  simp only [accEv,hy]
  cases y
  case slice b o n c e=>
   refine ⟨_,_,rfl,fun s' h hr=>(hrun s' (hal s' h) (by rw [elems_read,elems_read,hr])).1,fun s' h hm hl'=>(hrun s' (hal s' h) ?_).1⟩
   rw [elems_read,elems_read]
   by_cases hn:n=0
   ·simp [hn]
   ·rw [if_neg hn,if_neg hn]
    cases hq:s.read (.ptr b o) n with
    | some q=>rw [read_lm (s':=s') hl' hm hq]
    | none=>
     exfalso
     simp only [xmEv] at he
     rw [elems_read,if_neg hn,hq] at he
     simp at he
  case nils=>exact ⟨_,_,rfl,fun s' h _=>(hrun s' (hal s' h) rfl).1,fun s' h _ _=>(hrun s' (hal s' h) rfl).1⟩
  all_goals (exfalso; simp only [xmEv] at he; split at he <;> simp_all)
theorem op_read (hk:o.kd=.read) (he:opEv call o s=some (v,s1)):s1=s∧
  (careEv o s=true→∃ t c,lookL s.l t=some c∧∀ s':St,Alike s s' o.ts→lookL s'.l t=some c→opEv call o s'=some (v,s')∧careEv o s'=true)∧
  ∀ s':St,Alike s s' o.ts→MExt s.m s'.m→(∀ t c,lookL s.l t=some c→lookL s'.l t=some c)→opEv call o s'=some (v,s'):=by
 cases o
 case load k x=>
  cases k with
  | none=>
   simp only [opEv] at he
   split at he
   ·rename_i q hq
    simp only [Option.some.injEq,Prod.mk.injEq] at he
    obtain ⟨rfl,rfl⟩:=he
    refine ⟨rfl,fun hc=>?_,fun s' h hm hl=>?_⟩
    ·simp only [careEv] at hc
     split at hc
     ·rename_i t off hx
      rw [hx] at hq
      cases hcc:lookL s.l t with
      | none=>simp [St.read,hcc] at hq
      | some c=>
       refine ⟨t,c,hcc,fun s' h hc'=>?_⟩
       have hx':s'.opd x=.loc t off:=(Alike.opd (x:=x) h).trans hx
       have:=read_loc hcc hc' hq
       exact ⟨by simp only [opEv,hx',this],by simp only [careEv,hx']⟩
     ·cases hc
    ·have:=read_lm (s':=s') hl hm hq
     simp only [opEv,Alike.opd (x:=x) h,this]
   ·cases he
  | some k=>
   simp only [opEv] at he
   split at he
   ·rename_i q hq
    simp only [Option.some.injEq,Prod.mk.injEq] at he
    obtain ⟨rfl,rfl⟩:=he
    refine ⟨rfl,fun hc=>?_,fun s' h hm hl=>?_⟩
    ·simp only [careEv] at hc
     split at hc
     ·rename_i t off hx
      rw [hx] at hq
      cases hcc:lookL s.l t with
      | none=>simp [St.read,hcc] at hq
      | some c=>
       refine ⟨t,c,hcc,fun s' h hc'=>?_⟩
       have hx':s'.opd x=.loc t off:=(Alike.opd (x:=x) h).trans hx
       have:=read_loc hcc hc' hq
       exact ⟨by simp only [opEv,hx',this],by simp only [careEv,hx']⟩
     ·cases hc
    ·have:=read_lm (s':=s') hl hm hq
     simp only [opEv,Alike.opd (x:=x) h,this]
   ·cases he
 case xm k l=>
  cases k <;> try (simp [AOp.kd] at hk; done)
  obtain ⟨h1,x,k,h2,h3,h4⟩:=b2s_spec he
  exact ⟨h1,fun hc=>by simp [careEv] at hc,h4⟩
 case alloc p z=>cases p <;> simp [AOp.kd] at hk
 case box p z=>cases p <;> simp [AOp.kd] at hk
 all_goals first | (simp [AOp.kd] at hk; done) | (rename_i k l; cases k <;> simp [AOp.kd] at hk)
theorem care_alike (hk:o.kd=.read) {s':St} (h:Alike s s' o.ts):careEv o s'=careEv o s:=by
 cases o
 case load k x=>simp only [careEv,Alike.opd (x:=x) h]
 case xm k l=>cases k <;> first | rfl | (simp [AOp.kd] at hk; done)
 case alloc p z=>cases p <;> simp [AOp.kd] at hk
 case box p z=>cases p <;> simp [AOp.kd] at hk
 all_goals first | (simp [AOp.kd] at hk; done) | (rename_i k l; cases k <;> simp [AOp.kd] at hk)
theorem op_readAt (hk:o.kd=.read) (he:opEv call o s=some (v,s1)):s1=s∧∃ x k,accEv o s=some (.rw x k false)∧
  ∀ s':St,Alike s s' o.ts→s'.read x k=s.read x k→opEv call o s'=some (v,s'):=by
 cases o
 case load k x=>
  cases k with
  | none=>
   simp only [opEv] at he
   split at he
   ·rename_i q hq
    simp only [Option.some.injEq,Prod.mk.injEq] at he
    obtain ⟨rfl,rfl⟩:=he
    exact ⟨rfl,_,_,rfl,fun s' h hr=>by simp only [opEv,Alike.opd (x:=x) h,hr,hq]⟩
   ·cases he
  | some k=>
   simp only [opEv] at he
   split at he
   ·rename_i q hq
    simp only [Option.some.injEq,Prod.mk.injEq] at he
    obtain ⟨rfl,rfl⟩:=he
    exact ⟨rfl,_,_,rfl,fun s' h hr=>by simp only [opEv,Alike.opd (x:=x) h,hr,hq]⟩
   ·cases he
 case xm k l=>
  cases k <;> try (simp [AOp.kd] at hk; done)
  obtain ⟨h1,x,k,h2,h3,h4⟩:=b2s_spec he
  exact ⟨h1,x,k,h2,h3⟩
 case alloc p z=>cases p <;> simp [AOp.kd] at hk
 case box p z=>cases p <;> simp [AOp.kd] at hk
 all_goals first | (simp [AOp.kd] at hk; done) | (rename_i k l; cases k <;> simp [AOp.kd] at hk)
theorem acc_alike {s':St} (h:Alike s s' o.ts):accEv o s'=accEv o s:=by
 cases o <;> try rfl
 case load k x=>cases k <;> simp only [accEv,Alike.opd (x:=x) h]
 case store k x w=>simp only [accEv,h.left.opd]
 case xm k l=>
  cases k <;> try rfl
  match l with
  | []=>rfl
  | _::_::_=>rfl
  | [x]=>simp only [accEv,Alike.opd (x:=x) (fun t ht=>h t (by simp only [AOp.ts,List.flatMap_cons,List.flatMap_nil,List.append_nil]; exact ht))]
theorem new_some {t:Nat} {cs:List AV} (h:lookL s.l t=none):s.new (some t) cs=some (.loc t 0,{ s with l:=setL s.l t cs }):=by
 simp only [St.new,h]
theorem op_newl (hk:o.kd=.newl) (hc:careEv o s=true) (he:opEv call o s=some (v,s1)):
  ∃ t cs,lookL s.l t=none∧s1={ s with l:=setL s.l t cs }∧∀ s':St,Alike s s' o.ts→lookL s'.l t=none→opEv call o s'=some (v,{ s' with l:=setL s'.l t cs })∧careEv o s'=true:=by
 cases o
 case alloc p z=>
  cases p with
  | none=>simp [AOp.kd] at hk
  | some t=>
   simp only [careEv] at hc
   split at hc
   ·rename_i hn
    simp only [opEv,new_some hn,Option.some.injEq,Prod.mk.injEq] at he
    obtain ⟨rfl,rfl⟩:=he
    exact ⟨t,z,hn,rfl,fun s' _ hn'=>⟨by simp only [opEv,new_some hn'],by simp only [careEv,hn']⟩⟩
   ·cases hc
 case box p x=>
  cases p with
  | none=>simp [AOp.kd] at hk
  | some t=>
   simp only [careEv] at hc
   split at hc
   ·rename_i hn
    simp only [opEv] at he
    split at he
    ·rename_i cs hcs
     simp only [new_some hn,Option.some.injEq,Prod.mk.injEq] at he
     obtain ⟨rfl,rfl⟩:=he
     exact ⟨t,cs,hn,rfl,fun s' h hn'=>⟨by simp only [opEv,Alike.opd (x:=x) h,hcs,new_some hn'],by simp only [careEv,hn']⟩⟩
    ·cases he
   ·cases hc
 all_goals first | (simp [AOp.kd] at hk; done) | (rename_i k l; cases k <;> simp [AOp.kd] at hk)
theorem callWith_mem {f:Nat} {args:List AV} (h:callWith call f args s=some (v,s1)):∃ m1,s1={ s with m:=m1 }∧∀ s':St,s'.m=s.m→callWith call f args s'=some (v,{ s' with m:=m1 }):=by
 unfold callWith at h
 split at h
 ·cases h
 ·rename_i hl
  split at h
  ·rename_i v' m' hc
   simp only [Option.some.injEq,Prod.mk.injEq] at h
   obtain ⟨rfl,rfl⟩:=h
   exact ⟨_,rfl,fun s' hm=>by simp only [callWith,if_neg hl,hm,hc]⟩
  ·cases h
theorem elems_m {s s':St} (hm:s'.m=s.m) (x:AV) (sz:Nat):x.elems s' sz=x.elems s sz:=by
 cases x <;> simp only [AV.elems,hm]
theorem appEv_mem {ty:Option Nat} {sz bytes:Nat} {x y:AV} (h:appEv s ty sz bytes x y=some (v,s1)):∃ m1,s1={ s with m:=m1 }∧∀ s':St,s'.m=s.m→appEv s' ty sz bytes x y=some (v,{ s' with m:=m1 }):=by
 have key:∀ s':St,s'.m=s.m→appEv s' ty sz bytes x y=(appEv s ty sz bytes x y).map fun p=>(p.1,{ s' with m:=p.2.m }):=by
  intro s' hm
  unfold appEv
  simp only [elems_m hm,hm]
  repeat' split
  all_goals first
   | rfl
   | (simp_all; done)
   | (rename_i hh; rw [←hm]; rfl)
   | (simp only [Option.map_some,Option.some.injEq,Prod.mk.injEq,true_and]; rw [←hm])
 have k0:∀ p,appEv s ty sz bytes x y=some p→p.2={ s with m:=p.2.m }:=by
  intro p hp
  have:=key s rfl
  rw [hp] at this
  simp only [Option.map_some,Option.some.injEq] at this
  exact congrArg Prod.snd this
 exact ⟨s1.m,k0 _ h,fun s' hm=>by rw [key s' hm,h]; rfl⟩
theorem opEv_lazy (hz:o.lazy=true):opEv call o s=match newOf o s with
  | some (cs,mk)=>if s.m.full then none else some (mk s.m.n,{ s with m:=s.m.push (.cells cs true) })
  | none=>none:=by
 cases o
 case alloc p z=>cases p with
  | some t=>simp [AOp.lazy] at hz
  | none=>rfl
 case box p x=>cases p with
  | some t=>simp [AOp.lazy] at hz
  | none=>
   simp only [opEv,newOf]
   cases (s.opd x).cells? <;> rfl
 case mkslc sz len z ps=>
  simp only [opEv,newOf]
  split
  ·split <;> simp_all
  ·rfl
 case make sz bytes z l c=>
  simp only [opEv,newOf]
  split
  ·split <;> simp_all
  ·simp_all
 all_goals simp [AOp.lazy] at hz
theorem newOf_alike {s':St} (h:Alike s s' o.ts):newOf o s'=newOf o s:=by
 cases o
 case alloc p z=>cases p <;> rfl
 case box p x=>cases p with
  | some t=>rfl
  | none=>simp only [newOf,Alike.opd (x:=x) h]
 case mkslc sz len z ps=>simp only [newOf,Alike.list2 h]
 case make sz bytes z l c=>simp only [newOf,h.left.opd,h.right.opd]
 all_goals rfl
theorem op_lazy (hz:o.lazy=true) (he:opEv call o s=some (v,s1)):∃ cs mk,newOf o s=some (cs,mk)∧s.m.full=false∧v=mk s.m.n∧s1={ s with m:=s.m.push (.cells cs true) }:=by
 rw [opEv_lazy hz] at he
 split at he
 ·rename_i cs mk h1
  split at he
  ·cases he
  ·rename_i hf
   simp only [Option.some.injEq,Prod.mk.injEq] at he
   obtain ⟨rfl,rfl⟩:=he
   exact ⟨cs,mk,h1,by simpa using hf,rfl,rfl⟩
 ·cases he
theorem op_newm_lazy (hz:o.lazy=true) (he:opEv call o s=some (v,s1)):∃ m1,s1={ s with m:=m1 }∧MExt s.m m1∧∀ s':St,Alike s s' o.ts→s'.m=s.m→opEv call o s'=some (v,{ s' with m:=m1 }):=by
 obtain ⟨cs,mk,h1,hf,rfl,rfl⟩:=op_lazy hz he
 refine ⟨_,rfl,fun i b hb=>?_,fun s' h hm=>?_⟩
 ·rw [Mem.get_push_old _ hf (by have:=Mem.get_lt hb; omega)]; exact hb
 ·rw [opEv_lazy hz,newOf_alike h,h1,hm]
  simp [hf]
theorem op_mem (hk:o.kd=.mem) (he:opEv call o s=some (v,s1)):∃ m1,s1={ s with m:=m1 }∧∀ s':St,Alike s s' o.ts→s'.m=s.m→opEv call o s'=some (v,{ s' with m:=m1 }):=by
 cases o
 case alloc p z=>cases p <;> simp [AOp.kd] at hk
 case box p z=>cases p <;> simp [AOp.kd] at hk
 case call f l=>
  simp only [opEv] at he
  obtain ⟨m1,h1,h2⟩:=callWith_mem he
  exact ⟨m1,h1,fun s' h hm=>by simp only [opEv,Alike.list h]; exact h2 s' hm⟩
 case callv f l=>
  simp only [opEv] at he
  split at he
  ·rename_i g cs hf
   obtain ⟨m1,h1,h2⟩:=callWith_mem he
   exact ⟨m1,h1,fun s' h hm=>by simp only [opEv,h.left.opd,h.right.list,hf]; exact h2 s' hm⟩
  ·cases he
 case app ty sz bytes x y=>
  simp only [opEv] at he
  obtain ⟨m1,h1,h2⟩:=appEv_mem he
  exact ⟨m1,h1,fun s' h hm=>by simp only [opEv,h.left.opd,h.right.opd]; exact h2 s' hm⟩
 case copy=>simp [opEv] at he
 case xm k l=>
  simp only [opEv] at he
  obtain ⟨m1,h1,h2⟩:=callWith_mem he
  exact ⟨m1,h1,fun s' h hm=>by simp only [opEv,Alike.list h]; exact h2 s' hm⟩
 all_goals first | (simp [AOp.kd] at hk; done) | (rename_i k l; cases k <;> simp [AOp.kd] at hk)
theorem op_newm (hk:o.kd=.newm) (he:opEv call o s=some (v,s1)):∃ m1,s1={ s with m:=m1 }∧MExt s.m m1∧∀ s':St,Alike s s' o.ts→s'.m=s.m→opEv call o s'=some (v,{ s' with m:=m1 }):=by
 cases o
 case alloc p z=>cases p with
  | some t=>simp [AOp.kd] at hk
  | none=>exact op_newm_lazy rfl he
 case box p z=>cases p with
  | some t=>simp [AOp.kd] at hk
  | none=>exact op_newm_lazy rfl he
 case mkslc=>exact op_newm_lazy rfl he
 case make=>exact op_newm_lazy rfl he
 case xm k l=>
  cases k
  case mkz ty=>
   have he0:=he
   simp only [opEv] at he
   obtain ⟨m1,h1,h2⟩:=callWith_mem he
   refine ⟨m1,h1,?_,fun s' h hm=>by simp only [opEv,Alike.list h]; exact h2 s' hm⟩
   obtain ⟨_,m2,h3,h4⟩:=xm_inv he0
   rw [h1] at h4
   have h5:m1=m2:=by have:=congrArg St.m h4; exact this
   subst h5
   intro i b hb
   unfold xmEv at h3
   split at h3 <;> try (first | (cases h3; done) | (exfalso; simp_all; done))
   split at h3
   ·split at h3
    ·cases h3
    ·rename_i hf
     simp only [Option.some.injEq,Prod.mk.injEq] at h3
     obtain ⟨_,rfl⟩:=h3
     rw [Mem.get_noteO,Mem.get_push_old _ (by simpa using hf) (by have:=Mem.get_lt hb; omega)]
     exact hb
   ·cases h3
  all_goals simp [AOp.kd] at hk
 all_goals first | (simp [AOp.kd] at hk; done) | (rename_i k l; cases k <;> simp [AOp.kd] at hk)
theorem op_stor (hk:o.kd=.store) (he:opEv call o s=some (v,s1)):∃ l1 m1,s1={ s with l:=l1,m:=m1 }∧∀ s':St,Alike s s' o.ts→s'.l=s.l→s'.m=s.m→opEv call o s'=some (v,{ s' with l:=l1,m:=m1 }):=by
 cases o
 case store k x w=>
  simp only [opEv] at he
  split at he
  ·rename_i vs hvs
   split at he
   ·rename_i hlen
    split at he
    ·rename_i s2 hw
     simp only [Option.some.injEq,Prod.mk.injEq] at he
     obtain ⟨rfl,rfl⟩:=he
     have key:∃ l1 m1,s2={ s with l:=l1,m:=m1 }∧∀ s':St,s'.l=s.l→s'.m=s.m→s'.write (s.opd x) vs=some { s' with l:=l1,m:=m1 }:=by
      unfold St.write at hw ⊢
      split at hw
      ·rename_i h0
       split at hw
       ·rename_i b off hx
        split at hw
        ·rename_i c hb
         split at hw
         ·rename_i h1
          cases hw
          exact ⟨s.l,_,rfl,fun s' hl hm=>by simp only [if_pos h0,hm,hb,if_pos h1,←hl]⟩
         ·cases hw
        ·cases hw
       ·rename_i t off hx
        split at hw
        ·rename_i c hb
         split at hw
         ·rename_i h1
          cases hw
          exact ⟨_,s.m,rfl,fun s' hl hm=>by simp only [if_pos h0,hl,hb,if_pos h1,←hm]⟩
         ·cases hw
        ·cases hw
       ·cases hw
      ·cases hw
     obtain ⟨l1,m1,h1,h2⟩:=key
     exact ⟨l1,m1,h1,fun s' h hl hm=>by simp only [opEv,h.left.opd,h.right.opd,hvs,if_pos hlen,h2 s' hl hm]⟩
    ·cases he
   ·cases he
  ·cases he
 case alloc p z=>cases p <;> simp [AOp.kd] at hk
 case box p z=>cases p <;> simp [AOp.kd] at hk
 all_goals first | (simp [AOp.kd] at hk; done) | (rename_i k l; cases k <;> simp [AOp.kd] at hk)
theorem cellsAt_splice {c vs:List AV} {o o' k':Nat} (hb:o+vs.length≤c.length) (h:o+vs.length≤o'∨o'+k'≤o):cellsAt (splice c o vs) o' k'=cellsAt c o' k':=by
 have hl:(splice c o vs).length=c.length:=by
  unfold splice
  simp only [List.length_append,List.length_take,List.length_drop]
  omega
 unfold cellsAt
 rw [hl]
 split
 ·rename_i hk
  congr 1
  apply List.ext_getElem?
  intro i
  simp only [List.getElem?_take,List.getElem?_drop]
  split
  ·rename_i hi
   unfold splice
   rw [List.append_assoc,List.getElem?_append,List.getElem?_append]
   simp only [List.length_take,List.getElem?_take,List.getElem?_drop]
   rcases h with h | h
   ·rw [if_neg (by omega),if_neg (by omega)]
    congr 1
    omega
   ·rw [if_pos (by omega),if_pos (by omega)]
  ·rfl
 ·rfl
theorem get_set_far {m:Mem} {b b':Nat} {y:ABlk} (h:b < 2 ^ depth) (h':b' < 2 ^ depth) (e:b≠b'):(m.set b y).get b'=m.get b':=by
 unfold Mem.get Mem.set
 dsimp only
 split
 ·exact T.get_set_ne _ _ _ _ (fun q=>e (path_inj depth b b' h h' q)) (by simp [path_length])
 ·rfl
theorem op_storAt (hk:o.kd=.store) (he:opEv call o s=some (v,s1)):∃ x k,accEv o s=some (.rw x k true)∧∀ y k',disj x k y k'=true→s1.read y k'=s.read y k':=by
 cases o
 case store k x w=>
  simp only [opEv] at he
  split at he
  ·rename_i vs hvs
   split at he
   ·rename_i hlen
    split at he
    ·rename_i s2 hw
     simp only [Option.some.injEq,Prod.mk.injEq] at he
     obtain ⟨rfl,rfl⟩:=he
     refine ⟨_,_,rfl,fun y k' hd=>?_⟩
     subst hlen
     unfold St.write at hw
     split at hw
     ·rename_i h0
      split at hw
      ·rename_i b off hx
       rw [hx] at hd
       split at hw
       ·rename_i c hb
        split at hw
        ·rename_i h1
         cases hw
         cases y <;> simp only [disj] at hd <;> try (cases hd)
         ·rename_i b' off'
          simp only [St.read]
          by_cases e:b=b'
          ·subst e
           simp only [if_true,Bool.or_eq_true,decide_eq_true_eq] at hd
           simp only [Mem.get_set_same _ (Mem.get_lt hb),hb,cellsAt_splice h1 hd]
          ·rw [if_neg e] at hd
           simp only [Bool.and_eq_true,decide_eq_true_eq] at hd
           rw [get_set_far hd.1 hd.2 e]
         ·rfl
        ·cases hw
       ·cases hw
      ·rename_i t off hx
       rw [hx] at hd
       split at hw
       ·rename_i c hb
        split at hw
        ·rename_i h1
         cases hw
         cases y <;> simp only [disj] at hd <;> try (cases hd)
         ·rfl
         ·rename_i t' off'
          simp only [St.read]
          by_cases e:t=t'
          ·subst e
           simp only [bne_self_eq_false,Bool.false_or,Bool.or_eq_true,decide_eq_true_eq] at hd
           simp only [lookL_setL_same,hb,cellsAt_splice h1 hd]
          ·rw [lookL_setL_ne _ _ _ _ e]
        ·cases hw
       ·cases hw
      ·cases hw
     ·cases hw
    ·cases he
   ·cases he
  ·cases he
 case alloc p z=>cases p <;> simp [AOp.kd] at hk
 case box p z=>cases p <;> simp [AOp.kd] at hk
 all_goals first | (simp [AOp.kd] at hk; done) | (rename_i k l; cases k <;> simp [AOp.kd] at hk)
end
end
end AG
