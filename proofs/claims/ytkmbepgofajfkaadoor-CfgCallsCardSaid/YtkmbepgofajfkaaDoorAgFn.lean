/- The abstract machine, part 12: code and functions. -/
import Derived.Test.YtkmbepgofajfkaaDoorAgDraw3
import Derived.LoopN
import Derived.Scope
namespace AG
noncomputable section
open Go Go.RowKit
def ExM:Ex→Exit→Prop
 | .norm,.normal=>True
 | .exit id,.exit id'=>id=id'
 | .ret,.ret=>True
 | _,_=>False
theorem Fr.weaken {O V O' V' O2 V2:Nat→Prop} {w w':World} (h:Fr O V w O' V' w') (ho:∀ k,O k→O2 k) (hv:∀ k,V k→V2 k):Fr O2 V2 w O' V' w':=
 ⟨h.os,h.tape,h.output,h.size,fun k hk hn=>h.keep k hk (fun h=>hn (ho k h)),fun k hk=>(h.own k hk).imp (ho k) id,fun k hk=>(h.alive k hk).imp (hv k) id,h.drawn⟩
section
variable {P:Program} {call:Caller} {again:AC→St→Option (Ex×St)} {H:Hints} {n:Nat}
def AgainOk (P:Program) (again:AC→St→Option (Ex×St)) (H:Hints) (n:Nat):Prop:=
 ∀ (c:Code) (s:St) (x:Ex) (s':St),again (.loop (trCode P H c)) s=some (x,s')→∀ (ρ:Rho) (lam:Nat→Nat) (a:Act) (w:World) (Q:Exit→Act→World→Prop),SR P ρ lam s a w→
  (∀ e a' w',ExM x e→Stands P ρ lam s w s' a' w'→Q e a' w')→Code.rounds P c Q n a w
theorem reg_ok (hc:CallOk P call) {id:Nat} {ops:Array Oper} {s s':St} {x:Ex} {ρ:Rho} {lam:Nat→Nat} {a:Act} {w:World} {Q:Exit→Act→World→Prop} (hs:SR P ρ lam s a w)
  (he:codeEv call again (.reg (ops.toList.map (trOper P H ops))) s=some (x,s')) (hk:∀ e a' w',ExM x e→Stands P ρ lam s w s' a' w'→Q e a' w'):(Code.region id ops false).wp P Q a w:=by
 simp only [codeEv] at he
 split at he
 ·rename_i s1 h1
  simp only [Option.some.injEq,Prod.mk.injEq] at he
  obtain ⟨rfl,rfl⟩:=he
  exact wp_region_list (ops_ok hc ops.toList s ρ lam a w _ hs h1 (fun a' w' h=>hk .normal a' w' trivial h))
 ·cases he
theorem SR.kept_weaken {ρ:Rho} {lam:Nat→Nat} {s s':St} {ts ls:List Nat} {w w':World} {a':Act}
  (h:Stands P ρ lam { s with t:=keepT ts ls s.t,l:=keepL s.l ls } w s' a' w'):Stands P ρ lam s w s' a' w':=by
 obtain ⟨ρ',lam',h1,h2,h3⟩:=h
 refine ⟨ρ',lam',h1,h2,h3.weaken ?_ ?_⟩
 ·rintro k (hk | ⟨t,c,hc,rfl⟩)
  ·exact .inl hk
  ·exact .inr ⟨t,c,(lookL_keepL _ _ _ _ hc).2,rfl⟩
 ·rintro k (hk | ⟨t,c,hc,rfl⟩)
  ·exact .inl hk
  ·exact .inr ⟨t,c,(lookL_keepL _ _ _ _ hc).2,rfl⟩
theorem code_ok (hc:CallOk P call) (hagain:AgainOk P again H n):∀ (c:Code) (s:St) (x:Ex) (s':St) (ρ:Rho) (lam:Nat→Nat) (a:Act) (w:World) (Q:Exit→Act→World→Prop),SR P ρ lam s a w→
  codeEv call again (trCode P H c) s=some (x,s')→(∀ e a' w',ExM x e→Stands P ρ lam s w s' a' w'→Q e a' w')→c.wp P Q a w:=by
 intro c
 induction c with
 | skip=>
  intro s x s' ρ lam a w Q hs he hk
  simp only [trCode,codeEv,Option.some.injEq,Prod.mk.injEq] at he
  obtain ⟨rfl,rfl⟩:=he
  exact wp_skip (hk _ _ _ trivial ⟨ρ,lam,hs,ρ.le_refl,Fr.refl _ _ _⟩)
 | region id ops draw=>
  intro s x s' ρ lam a w Q hs he hk
  cases draw with
  | true=>
   simp only [trCode] at he
   split at he
   ·rename_i fl hfl
    split at he
    ·rename_i hm
     obtain ⟨ms,hd⟩:=drawOf_spec hfl
     have dreg:∀ {s:St},SR P ρ lam s a w→codeEv call again (.dreg (fl.map (·.2))) s=some (x,s')→(∀ e a' w',ExM x e→Stands P ρ lam s w s' a' w'→Q e a' w')→(Code.region id ops true).wp P Q a w:=by
      intro s hs he hk
      simp only [codeEv] at he
      split at he
      ·rename_i s1 log h1
       split at he
       ·rename_i hlog
        simp only [Option.some.injEq,Prod.mk.injEq] at he
        obtain ⟨rfl,rfl⟩:=he
        exact draw_ok hm hc hd hs hlog h1 (fun a' w' h=>hk .normal a' w' trivial h)
       ·cases he
      ·cases he
     simp only [keepOf] at he
     split at he
     ·rename_i q ts ls hq
      simp only [codeEv] at he
      exact dreg (hs.keep ts ls) (by simpa only [codeEv] using he) (fun e a' w' h1 h2=>hk e a' w' h1 (SR.kept_weaken h2))
     ·exact dreg hs he hk
    ·simp [codeEv] at he
   ·simp [codeEv] at he
  | false=>
   simp only [trCode,keepOf] at he
   split at he
   ·rename_i q ts ls hq
    simp only [codeEv] at he
    exact reg_ok (again:=again) hc (hs.keep ts ls) (by simpa only [codeEv] using he) (fun e a' w' h1 h2=>hk e a' w' h1 (SR.kept_weaken h2))
   ·exact reg_ok (again:=again) hc hs he hk
 | seq c1 c2 ih1 ih2=>
  intro s x s' ρ lam a w Q hs he hk
  simp only [trCode,codeEv] at he
  cases h1:codeEv call again (trCode P H c1) s with
  | none=>simp [h1] at he
  | some q=>
   obtain ⟨x1,s1⟩:=q
   rw [h1] at he
   refine wp_seq (ih1 s x1 s1 ρ lam a w _ hs h1 (fun e a' w' hx hst=>?_))
   cases x1 with
   | norm=>
    cases e <;> simp only [ExM] at hx
    simp only [Exit.then]
    obtain ⟨ρ1,lam1,q1,q2,q3⟩:=hst
    exact ih2 s1 x s' ρ1 lam1 a' w' Q q1 he (fun e a'' w'' hx' hst'=>hk e a'' w'' hx' (Stands.trans q2 q3 hst'))
   | exit id=>
    simp only [Option.some.injEq,Prod.mk.injEq] at he
    obtain ⟨rfl,rfl⟩:=he
    cases e <;> simp only [ExM] at hx
    subst hx
    exact hk _ _ _ rfl hst
   | ret=>
    simp only [Option.some.injEq,Prod.mk.injEq] at he
    obtain ⟨rfl,rfl⟩:=he
    cases e <;> simp only [ExM] at hx
    exact hk _ _ _ trivial hst
 | cond o c1 c2 ih1 ih2=>
  intro s x s' ρ lam a w Q hs he hk
  simp only [trCode] at he
  split at he
  ·rename_i o' ho
   simp only [codeEv] at he
   split at he
   ·rename_i t ht
    have h:=hs.opd ho
    rw [ht] at h; simp only [VT,VR] at h
    cases t
    ·exact wp_cond_false h (ih2 s x s' ρ lam a w Q hs (by simpa using he) hk)
    ·exact wp_cond_true h (ih1 s x s' ρ lam a w Q hs (by simpa using he) hk)
   ·cases he
  ·simp [codeEv] at he
 | block id c ih=>
  intro s x s' ρ lam a w Q hs he hk
  simp only [trCode,codeEv] at he
  cases h1:codeEv call again (trCode P H c) s with
  | none=>simp [h1] at he
  | some q=>
   obtain ⟨x1,s1⟩:=q
   rw [h1] at he
   refine wp_block (ih s x1 s1 ρ lam a w _ hs h1 (fun e a' w' hx hst=>?_))
   cases x1 with
   | norm=>
    simp only [Option.some.injEq,Prod.mk.injEq] at he
    obtain ⟨rfl,rfl⟩:=he
    cases e <;> simp only [ExM] at hx
    exact hk _ _ _ trivial hst
   | exit id'=>
    cases e <;> simp only [ExM] at hx
    subst hx
    simp only [Exit.inBlock]
    simp only at he
    split at he
    ·rename_i h2
     simp only [Option.some.injEq,Prod.mk.injEq] at he
     obtain ⟨rfl,rfl⟩:=he
     rw [if_pos h2]
     exact hk _ _ _ trivial hst
    ·rename_i h2
     simp only [Option.some.injEq,Prod.mk.injEq] at he
     obtain ⟨rfl,rfl⟩:=he
     rw [if_neg h2]
     exact hk _ _ _ rfl hst
   | ret=>
    simp only [Option.some.injEq,Prod.mk.injEq] at he
    obtain ⟨rfl,rfl⟩:=he
    cases e <;> simp only [ExM] at hx
    exact hk _ _ _ trivial hst
 | loop c ih=>
  intro s x s' ρ lam a w Q hs he hk
  refine wp_loop_rounds (n+1) ?_
  rw [rounds_succ]
  simp only [trCode,codeEv] at he
  cases h1:codeEv call again (trCode P H c) s with
  | none=>simp [h1] at he
  | some q=>
   obtain ⟨x1,s1⟩:=q
   rw [h1] at he
   refine ih s x1 s1 ρ lam a w _ hs h1 (fun e a' w' hx hst=>?_)
   cases x1 with
   | norm=>
    cases e <;> simp only [ExM] at hx
    simp only [Exit.then]
    obtain ⟨ρ1,lam1,q1,q2,q3⟩:=hst
    exact hagain c s1 x s' he ρ1 lam1 a' w' Q q1 (fun e a'' w'' hx' hst'=>hk e a'' w'' hx' (Stands.trans q2 q3 hst'))
   | exit id=>
    simp only [Option.some.injEq,Prod.mk.injEq] at he
    obtain ⟨rfl,rfl⟩:=he
    cases e <;> simp only [ExM] at hx
    subst hx
    exact hk _ _ _ rfl hst
   | ret=>
    simp only [Option.some.injEq,Prod.mk.injEq] at he
    obtain ⟨rfl,rfl⟩:=he
    cases e <;> simp only [ExM] at hx
    exact hk _ _ _ trivial hst
 | exit id=>
  intro s x s' ρ lam a w Q hs he hk
  simp only [trCode,codeEv,Option.some.injEq,Prod.mk.injEq] at he
  obtain ⟨rfl,rfl⟩:=he
  exact wp_exit (hk _ _ _ rfl ⟨ρ,lam,hs,ρ.le_refl,Fr.refl _ _ _⟩)
 | ret=>
  intro s x s' ρ lam a w Q hs he hk
  simp only [trCode,codeEv,Option.some.injEq,Prod.mk.injEq] at he
  obtain ⟨rfl,rfl⟩:=he
  exact wp_ret (hk _ _ _ trivial ⟨ρ,lam,hs,ρ.le_refl,Fr.refl _ _ _⟩)
 | scope c ih=>
  intro s x s' ρ lam a w Q hs he hk
  simp only [trCode] at he
  refine wp_scope_straight (ih s x s' ρ lam a w _ hs he (fun e a' w' hx hst=>?_))
  have:=hk e a' w' hx hst
  cases x <;> cases e <;> first | exact this | exact hx.elim
 | label l=>
  intro s x s' ρ lam a w Q hs he hk
  simp only [trCode,codeEv,Option.some.injEq,Prod.mk.injEq] at he
  obtain ⟨rfl,rfl⟩:=he
  exact wp_label (hk _ _ _ trivial ⟨ρ,lam,hs,ρ.le_refl,Fr.refl _ _ _⟩)
 | _=>
  intro s x s' ρ lam a w Q hs he hk
  simp [trCode,codeEv] at he
theorem again_ok (hc:CallOk P call) (hagain:AgainOk P again H n):AgainOk P (codeEv call again) H (n+1):=by
 intro c s x s' he ρ lam a w Q hs hk
 rw [rounds_succ]
 simp only [codeEv] at he
 cases h1:codeEv call again (trCode P H c) s with
 | none=>simp [h1] at he
 | some q=>
  obtain ⟨x1,s1⟩:=q
  rw [h1] at he
  refine code_ok hc hagain c s x1 s1 ρ lam a w _ hs h1 (fun e a' w' hx hst=>?_)
  cases x1 with
  | norm=>
   cases e <;> simp only [ExM] at hx
   simp only [Exit.then]
   obtain ⟨ρ1,lam1,q1,q2,q3⟩:=hst
   exact hagain c s1 x s' he ρ1 lam1 a' w' Q q1 (fun e a'' w'' hx' hst'=>hk e a'' w'' hx' (Stands.trans q2 q3 hst'))
  | exit id=>
   simp only [Option.some.injEq,Prod.mk.injEq] at he
   obtain ⟨rfl,rfl⟩:=he
   cases e <;> simp only [ExM] at hx
   subst hx
   exact hk _ _ _ rfl hst
  | ret=>
   simp only [Option.some.injEq,Prod.mk.injEq] at he
   obtain ⟨rfl,rfl⟩:=he
   cases e <;> simp only [ExM] at hx
   exact hk _ _ _ trivial hst
theorem look_argsT:∀ (l:List AV) (i u:Nat),look (argsT i l) u=if i≤u then (l[u - i]?).getD .unk else .unk
 | [],i,u=>by simp [argsT,look_nil]
 | v::r,i,u=>by
  simp only [argsT,look_cons]
  by_cases h:i=u
  ·subst h; simp
  ·rw [if_neg h,look_argsT r (i+1) u]
   by_cases h':i≤u
   ·rw [if_pos (by omega),if_pos h']
    have:u - i=(u - (i+1))+1:=by omega
    rw [this,List.getElem?_cons_succ]
   ·rw [if_neg (by omega),if_neg h']
theorem SR.start {ρ:Rho} {m:Mem} {w:World} {args:List AV} {rargs:Array Value} {N:Nat} (lam:Nat→Nat) (hm:MR P ρ m w) (ha:VRs ρ args rargs.toList) (hn:args.length≤N):
  SR P ρ lam { n:=N,t:=argsT 0 args,l:=[],m } { tmps:=rargs++Array.replicate (N - rargs.size) undef,defers:=[] } w:=by
 have hsz:rargs.size=args.length:=by rw [←Array.length_toList,ha.length]
 have hv:∀ u,VR ρ (look (argsT 0 args) u) ((rargs++Array.replicate (N - rargs.size) undef).getD u undef):=by
  intro u
  rw [look_argsT]
  simp only [Nat.zero_le,if_true,Nat.sub_zero]
  cases h:args[u]? with
  | none=>simp [VR]
  | some v=>
   obtain ⟨r,h1,h2⟩:=ha.get h
   have hlt:u < rargs.size:=by rw [hsz]; exact (List.getElem?_eq_some_iff.1 h).1
   have h1':rargs[u]?=some r:=by simpa using h1
   simp only [Option.getD_some,Array.getD_eq_getD_getElem?,Array.getElem?_append_left hlt,h1']
   exact h2
 refine ⟨by simp; omega,rfl,fun u=>VT.of_vr (hv u),fun u t o hu=>absurd hu ((hv u).noloc t o),fun t c hc=>by simp [lookL_nil] at hc,fun t t' c c' hc=>by simp [lookL_nil] at hc,fun t c hc=>by simp [lookL_nil] at hc,hm⟩
theorem asAddr_some (p:Addr) (w:World):(asAddr (.pointer (some p))).run P w=.ok p w:=rfl
def resOne (tmps:Array Value):ResultVar→Sem Value
 | .tmp t=>pure (tmps.getD t undef)
 | .cell p t=>do loadVar t (←asAddr (tmps.getD p undef))
theorem results_run (fn:Func) (tmps:Array Value) (w:World):(results fn tmps).run P w=((fn.results.toList.mapM (resOne tmps)).run P w).andThen fun vs w'=>.ok (if h:vs.toArray.size=1 then vs.toArray[0] else .tuple vs.toArray) w':=by
 have:results fn tmps=(do let vs ← fn.results.mapM (resOne tmps); pure (if h:vs.size=1 then vs[0] else .tuple vs):Sem Value):=by
  unfold results
  congr 2
 rw [this]
 simp only [Array.mapM_eq_mapM_toList,Sem.run_bind,Sem.run_map]
 cases (fn.results.toList.mapM (resOne tmps)).run P w <;> rfl
theorem res_ok {ρ:Rho} {lam:Nat→Nat} {s:St} {a:Act} {w:World} (hs:SR P ρ lam s a w):∀ {l:List ResultVar} {l':List ARes} {vs:List AV},trRes P l=some l'→resEv s l'=some vs→
  ∃ rs:List Value,(l.mapM (resOne a.tmps)).run P w=.ok rs w∧(vs.any AV.isLoc=false→VRs ρ vs rs)
 | [],l',vs,h,he=>by
  simp only [trRes,Option.some.injEq] at h; subst h
  simp only [resEv,Option.some.injEq] at he; subst he
  exact ⟨[],by simp,fun _=>by simp [VRs]⟩
 | .tmp t::r,l',vs,h,he=>by
  simp only [trRes,Option.map_eq_some_iff] at h
  obtain ⟨l2,h2,rfl⟩:=h
  simp only [resEv] at he
  split at he
  ·rename_i l3 h3
   simp only [Option.some.injEq] at he; subst he
   obtain ⟨rs,q1,q2⟩:=res_ok hs h2 h3
   refine ⟨a.tmps.getD t undef::rs,by simp only [List.mapM_cons,resOne,Sem.run_bind,Sem.run_pure,Result.andThen_ok,q1],fun hl=>?_⟩
   simp only [List.any_cons,Bool.or_eq_false_iff] at hl
   simp only [VRs]
   exact ⟨_,_,rfl,(hs.tmp t).vr hl.1,q2 hl.2⟩
  ·cases he
 | .cell p t::r,l',vs,h,he=>by
  simp only [trRes] at h
  split at h
  ·rename_i k l2 h1 h2 h3
   cases h
   obtain ⟨i,hi,rfl⟩:=szOf_ok h2
   simp only [resEv] at he
   split at he
   ·rename_i c l3 h4 h5
    simp only [Option.some.injEq] at he; subst he
    obtain ⟨rs,q1,q2⟩:=res_ok hs h3 h5
    obtain ⟨b,off,us,hr,k1,k2,k3⟩:=read_ok hs (hs.tmp p) h4
    have hl:=run_loadAt_agg (P:=P) (w:=w) h1 hi k2 k3
    simp only [Instr.loadAt,Instr.sureAddr,Sem.run_bind,Sem.run_pure,Result.andThen_ok] at hl
    refine ⟨.agg us.toArray::rs,by simp only [List.mapM_cons,resOne,Sem.run_bind,hr,asAddr_some,Result.andThen_ok,hl,q1,Sem.run_pure],fun hl=>?_⟩
    simp only [List.any_cons,Bool.or_eq_false_iff] at hl
    simp only [VRs]
    exact ⟨_,_,rfl,by simp only [VR]; exact ⟨_,rfl,k1⟩,q2 hl.2⟩
   ·cases he
  ·rename_i k l2 h1 h2 h3
   cases h
   simp only [resEv] at he
   split at he
   ·rename_i v l3 h4 h5
    simp only [Option.some.injEq] at he; subst he
    obtain ⟨rs,q1,q2⟩:=res_ok hs h3 h5
    obtain ⟨b,off,us,hr,k1,k2,k3⟩:=read_ok hs (hs.tmp p) h4
    simp only [VRs] at k1
    obtain ⟨r0,rest,rfl,hv,rfl⟩:=k1
    have hcell:=k3 0 r0 rfl
    simp only [Nat.add_zero] at hcell
    have hl:=run_loadAt_one (P:=P) (w:=w) h1 hcell
    simp only [Instr.loadAt,Instr.sureAddr,Sem.run_bind,Sem.run_pure,Result.andThen_ok] at hl
    refine ⟨r0::rs,by simp only [List.mapM_cons,resOne,Sem.run_bind,hr,asAddr_some,Result.andThen_ok,hl,q1,Sem.run_pure],fun hl=>?_⟩
    simp only [List.any_cons,Bool.or_eq_false_iff] at hl
    simp only [VRs]
    exact ⟨_,_,rfl,hv,q2 hl.2⟩
   ·cases he
  ·cases h
theorem results_ok {ρ:Rho} {lam:Nat→Nat} {s:St} {a:Act} {w:World} {fn:Func} {l':List ARes} (hs:SR P ρ lam s a w) (h:trRes P fn.results.toList=some l') {v:AV}
  (he:(match resEv s l' with
   | some [v]=>if v.isLoc then none else some (v,s.m)
   | some l=>if l.any AV.isLoc then none else some (.tup l,s.m)
   | none=>none)=some (v,s.m)):∃ r,(results fn a.tmps).run P w=.ok r w∧VR ρ v r:=by
 split at he
 ·rename_i u hu
  split at he
  ·cases he
  ·rename_i hl
   simp only [Option.some.injEq,Prod.mk.injEq,and_true] at he; subst he
   obtain ⟨rs,h1,h2⟩:=res_ok hs h hu
   have h3:=h2 (by simpa using hl)
   simp only [VRs] at h3
   obtain ⟨r,rest,rfl,hv,rfl⟩:=h3
   refine ⟨r,?_,hv⟩
   rw [results_run,h1]
   rfl
 ·rename_i l hne hu
  split at he
  ·cases he
  ·rename_i hl
   simp only [Option.some.injEq,Prod.mk.injEq,and_true] at he; subst he
   obtain ⟨rs,h1,h2⟩:=res_ok hs h hu
   have h3:=h2 (by simpa using hl)
   refine ⟨.tuple rs.toArray,?_,by simp only [VR]; exact ⟨_,rfl,h3⟩⟩
   rw [results_run,h1]
   simp only [Result.andThen_ok]
   have hlen:=h3.length
   have hn1:¬rs.toArray.size=1:=by
    intro h1'
    have:l.length=1:=by simp at h1'; omega
    obtain ⟨v,rfl⟩:=List.length_eq_one_iff.1 this
    exact hne v rfl
   rw [dif_neg hn1]
 ·cases he
theorem fn_ok (hc:CallOk P call) (hagain:AgainOk P again H n) {f:FuncId} {fn:Func} {af:AFn} (hf:P.funcs[f]?=some fn) (htr:trFn P H fn=some af) {args:List AV} {m m':Mem} {v:AV}
  (he:fnEv call again af args m=some (v,m')):(fn.name≠ "runtime.NumGoroutine"∧fn.body.isSome=true)∧∀ ρ (rargs:Array Value) w,MR P ρ m w→VRs ρ args rargs.toList→
   Calls P f rargs w fun e w'=>∃ r ρ',e=.returned r∧VR ρ' v r∧MStep P ρ m w ρ' m' w':=by
 unfold trFn at htr
 split at htr
 ·rename_i c res hb hres
  split at htr
  ·cases htr
  ·rename_i hname
   simp only [not_or] at hname
   cases htr
   refine ⟨⟨hname.1,by rw [hb]; rfl⟩,fun ρ rargs w hm ha=>?_⟩
   unfold fnEv at he
   dsimp only at he
   split at he
   case isFalse=>cases he
   rename_i hnp
   try dsimp only at hnp he
   have hs:=SR.start (P:=P) (N:=fn.ntmps) (fun _=>0) hm ha (by omega)
   have hsz:rargs.size=args.length:=by rw [←Array.length_toList,ha.length]
   refine calls_of_wp hf hb ?_
   cases h1:codeEv call again (trCode P H c) { n:=fn.ntmps,t:=argsT 0 args,l:=[],m } with
   | none=>simp [h1] at he
   | some q=>
    obtain ⟨x,s'⟩:=q
    rw [h1] at he
    have hx:x=.norm∨x=.ret:=by
     cases x with
     | norm=>exact .inl rfl
     | ret=>exact .inr rfl
     | exit id=>simp at he
    have he':(match resEv s' res with
     | some [v]=>if v.isLoc then none else some (v,s'.m)
     | some l=>if l.any AV.isLoc then none else some (.tup l,s'.m)
     | none=>none)=some (v,m'):=by rcases hx with rfl | rfl <;> exact he
    have hm':m'=s'.m:=by
     split at he'
     ·split at he'
      ·cases he'
      ·simp only [Option.some.injEq,Prod.mk.injEq] at he'; exact he'.2.symm
     ·split at he'
      ·cases he'
      ·simp only [Option.some.injEq,Prod.mk.injEq] at he'; exact he'.2.symm
     ·cases he'
    subst hm'
    refine code_ok hc hagain c _ x s' ρ (fun _=>0) _ w _ hs h1 (fun e a' w' hxe hst=>?_)
    obtain ⟨ρ',lam',q1,q2,q3⟩:=hst
    obtain ⟨r,hr,hv⟩:=results_ok (fn:=fn) q1 hres he'
    have hstep:MStep P ρ m w ρ' s'.m w':=by
     refine ⟨q1.mem,q2,⟨q3.os,q3.tape,q3.output,q3.size,fun k hk hn=>q3.keep k hk ?_,fun k hk=>?_,fun k hk=>?_,q3.drawn⟩⟩
     ·rintro (ho | ⟨t,c,hc,_⟩)
      ·exact hn ho
      ·simp [lookL_nil] at hc
     ·rcases q3.own k (.inl hk) with (h | ⟨t,c,hc,_⟩) | h
      ·exact .inl h
      ·simp [lookL_nil] at hc
      ·exact .inr h
     ·rcases q3.alive k (.inl hk) with (h | ⟨t,c,hc,_⟩) | h
      ·exact .inl h
      ·simp [lookL_nil] at hc
      ·exact .inr h
    have hpost:a'.defers=[]∧∃ v_1,(results fn a'.tmps).run P w'=.ok v_1 w'∧∃ r ρ',Ending.returned v_1=.returned r∧VR ρ' v r∧MStep P ρ m w ρ' s'.m w':=
     ⟨q1.defers,r,hr,r,ρ',rfl,hv,hstep⟩
    rcases hx with rfl | rfl <;> cases e <;> simp only [ExM] at hxe <;> exact hpost
 ·cases htr
end
def PrimOk (P:Program) (f:Nat) (p:Caller→List AV→Mem→Option (AV×Mem)):Prop:=
 ∀ call,CallOk P call→∀ args m v m',p call args m=some (v,m')→
  (∃ fn,P.funcs[f]?=some fn∧fn.name≠ "runtime.NumGoroutine"∧fn.body.isSome=true)∧
  ∀ ρ (rargs:Array Value) w,MR P ρ m w→VRs ρ args rargs.toList→
   Calls P f rargs w fun e w'=>∃ r ρ',e=.returned r∧VR ρ' v r∧MStep P ρ m w ρ' m' w'
def AOk (P:Program) (A:Nat→Option AFn):Prop:=∀ f af,A f=some af→(∃ H fn,P.funcs[f]?=some fn∧trFn P H fn=some af)∨∃ p,af.prim=some p∧PrimOk P f p
theorem ev_ok {P:Program} {A:Nat→Option AFn} (hA:AOk P A):∀ n,CallOk P (ev A n).1∧∀ H,AgainOk P (ev A n).2 H n
 | 0=>⟨fun f args m v m' h=>by simp [ev] at h,fun H c s x s' h=>by simp [ev] at h⟩
 | n+1=>by
  obtain ⟨h1,h2⟩:=ev_ok hA n
  refine ⟨fun f args m v m' h=>?_,fun H=>again_ok h1 (h2 H)⟩
  have h':(match A f with
   | some fn=>fnEv (ev A n).1 (ev A n).2 fn args m
   | none=>none)=some (v,m'):=h
  split at h'
  ·rename_i af haf
   rcases hA f af haf with ⟨H,fn,hf,htr⟩ | ⟨p,hp,hok⟩
   ·have:=fn_ok h1 (h2 H) hf htr h'
    exact ⟨⟨fn,hf,this.1⟩,this.2⟩
   ·unfold fnEv at h'
    rw [hp] at h'
    exact hok _ h1 args m v m' h'
  ·cases h'
theorem run_ok {P:Program} {A:Nat→Option AFn} (hA:AOk P A) {n f:Nat} {args:List AV} {m m':Mem} {v:AV} (h:run A n f args m=some (v,m')) {ρ:Rho} {rargs:Array Value} {w:World} (hm:MR P ρ m w)
  (ha:VRs ρ args rargs.toList):Calls P f rargs w fun e w'=>∃ r ρ',e=.returned r∧VR ρ' v r∧MStep P ρ m w ρ' m' w':=
 ((ev_ok hA n).1 f args m v m' h).2 ρ rargs w hm ha
end
end AG
