/- The abstract machine, part 11: regions, code, functions. -/
import Derived.Test.YtkmbepgofajfkaaDoorAgOps8
namespace AG
noncomputable section
open Go Go.RowKit
def CallOk (P:Program) (call:Caller):Prop:=
 ∀ f args m v m',call f args m=some (v,m')→
  (∃ fn,P.funcs[f]?=some fn∧fn.name≠ "runtime.NumGoroutine"∧fn.body.isSome=true)∧
  ∀ ρ (rargs:Array Value) w,MR P ρ m w→VRs ρ args rargs.toList→
   Calls P f rargs w fun e w'=>∃ r ρ',e=.returned r∧VR ρ' v r∧MStep P ρ m w ρ' m' w'
section
variable {P:Program} {o:Oper} {a:Act} {w w':World} {next:Act→World→Prop} {Q:Exit→Act→World→Prop}
variable {ρ ρ':Rho} {lam:Nat→Nat} {s s':St} {v:AV} {r:Value} {call:Caller}
theorem call_ok {f:Nat} {args:List AV} {rargs:Array Value} (hc:CallOk P call) (hs:SR P ρ lam s a w) (hrun:∀ fn,P.funcs[f]?=some fn→fn.name≠ "runtime.NumGoroutine"→fn.body.isSome=true→(execOp a.eval o).run P w=.ok (.enter f rargs) w)
  (hargs:args.any AV.isLoc=false→VRs ρ args rargs.toList) (he:callWith call f args s=some (v,s')) (hk:After P ρ lam s a w v s' o.dst next):o.wp P a w next Q:=by
 unfold callWith at he
 split at he
 ·cases he
 ·rename_i hl
  split at he
  ·rename_i v' m' hcall
   simp only [Option.some.injEq,Prod.mk.injEq] at he
   obtain ⟨rfl,rfl⟩:=he
   obtain ⟨⟨fn,h1,h2,h3⟩,h4⟩:=hc _ _ _ _ _ hcall
   unfold Oper.wp
   rw [hrun fn h1 h2 h3,Oper.upon_enter]
   refine (h4 ρ rargs w hs.mem (hargs (by simpa using hl))).mono ?_
   rintro e w' ⟨r,ρ',rfl,hv,hm⟩
   exact hk ρ' lam r w' (VT.of_vr hv) (fun t o e=>absurd e (hv.noloc t o)) (hs.step hm).1 hm.le (hs.step hm).2
  ·cases he
theorem op_call {f:FuncId} {args:Array Operand} {ts:Array TypeId} {l:List Opd} (hc:CallOk P call) (ho:o.op=.call { callee:=.value (.func f),args,argTypes:=ts }) (hl:opds P args.toList=some l) (hs:SR P ρ lam s a w)
  (he:opEv call (.call f l) s=some (v,s')) (hk:After P ρ lam s a w v s' o.dst next):o.wp P a w next Q:=by
 simp only [opEv] at he
 refine call_ok (rargs:=args.map a.eval) hc hs (fun fn h1 h2 h3=>?_) (fun h=>by simpa using opds_ok hs hl h) he hk
 obtain ⟨cd,h3'⟩:=Option.isSome_iff_exists.1 h3
 simp [execOp,ho,resolve,Deferred.ofValue,Act.eval,invoke,callFunc,h1,h2,h3']
theorem op_callv {t:Tmp} {args:Array Operand} {ts:Array TypeId} {l:List Opd} (hc:CallOk P call) (ho:o.op=.call { callee:=.value (.tmp t),args,argTypes:=ts }) (hl:opds P args.toList=some l) (hs:SR P ρ lam s a w)
  (he:opEv call (.callv (.tmp t) l) s=some (v,s')) (hk:After P ρ lam s a w v s' o.dst next):o.wp P a w next Q:=by
 simp only [opEv] at he
 split at he
 ·rename_i g cs hf
  have h:=hs.tmp t
  simp only [St.opd] at hf
  rw [hf] at h; simp only [VT,VR] at h
  obtain ⟨rs,hr,hrs⟩:=h
  have hev:a.eval (.tmp t)=.func (.func g) #[] rs:=hr
  refine call_ok (rargs:=args.map a.eval++rs) hc hs (fun fn h1 h2 h3=>?_) (fun h=>?_) he hk
  ·obtain ⟨cd,h3'⟩:=Option.isSome_iff_exists.1 h3
   simp [execOp,ho,resolve,Deferred.ofValue,hev,invoke,callFunc,h1,h2,h3']
  ·simp only [List.any_append,Bool.or_eq_false_iff] at h
   simpa using (opds_ok hs hl h.1).append hrs
 ·cases he
theorem byteTy_ok {P:Program} {e u:TypeId} (h:byteTy P e=some u):u=e:=by
 unfold byteTy at h
 split at h
 ·exact (Option.some.inj h).symm
 ·cases h
theorem op_sound {H:Hints} {ao:AOp} (hc:CallOk P call) (htr:trOp P H o.dst o.op=some ao) (hs:SR P ρ lam s a w) (he:opEv call ao s=some (v,s'))
  (hk:After P ρ lam s a w v s' o.dst next):o.wp P a w next Q:=by
 generalize hop:o.op=op at htr
 unfold trOp at htr
 split at htr
 ·simp only [Option.map_eq_some_iff] at htr; obtain ⟨y,hy,rfl⟩:=htr; exact op_mov (.inl hop) hy hs he hk
 ·simp only [Option.map_eq_some_iff] at htr; obtain ⟨y,hy,rfl⟩:=htr; exact op_mov (.inr hop) hy hs he hk
 ·split at htr
  ·rename_i h1 h2 h3; cases htr; exact op_pick hop h1 h2 h3 hs he hk
  ·cases htr
 ·split at htr
  ·split at htr
   ·cases htr
   ·simp only [Option.map_eq_some_iff] at htr; obtain ⟨z,hz,rfl⟩:=htr; exact op_alloc hop hz hs he hk
  ·simp only [Option.map_eq_some_iff] at htr; obtain ⟨z,hz,rfl⟩:=htr; exact op_alloc hop hz hs he hk
 ·simp only [Option.map_eq_some_iff] at htr; obtain ⟨y,hy,rfl⟩:=htr; exact op_box hop hy hs he hk
 ·split at htr
  ·rename_i fs z h1 h2
   split at htr
   ·rename_i l hl
    simp only [Option.map_eq_some_iff] at htr; obtain ⟨qs,hq,rfl⟩:=htr
    exact op_build hop h1 h2 hl hq hs he hk
   ·cases htr
  ·rename_i k e z h1 h2
   split at htr
   ·rename_i sz qs h3 h4
    cases htr
    exact op_buildA hop h1 h2 h3 h4 hs he hk
   ·cases htr
  ·cases htr
 ·split at htr
  ·rename_i e h1
   split at htr
   ·rename_i sz z ps h2 h3 h4
    split at htr
    ·rename_i hb
     cases htr
     refine op_mkslc hop h1 h2 h3 h4 hb.1 hb.2 ?_ hs he hk
     simp only [opEv] at he
     split at he
     ·rename_i hlen
      have:=Nat.le_trans (Nat.le_mul_of_pos_right _ hb.2) hlen
      unfold maxLen; omega
     ·cases he
    ·cases htr
   ·cases htr
  ·cases htr
 ·split at htr
  ·rename_i k y h1 h2 h3; cases htr; exact op_loadk hop h1 h2 h3 hs he hk
  ·rename_i k y h1 h2 h3; cases htr; exact op_load1 hop h1 h3 hs he hk
  ·cases htr
 ·split at htr
  ·rename_i h1 h2 h3; cases htr; exact op_store hop h1 h2 h3 hs he hk
  ·cases htr
 ·simp only [Option.map_eq_some_iff] at htr; obtain ⟨y,hy,rfl⟩:=htr; exact op_nilck hop hy hs he hk
 ·split at htr
  ·rename_i x y h1 h2
   split at htr
   ·rename_i k hk'; cases htr; exact op_eq false (by simpa using hop) hk' h1 h2 hs he hk
   ·rename_i k hk'; cases htr; exact op_eq true (by simpa using hop) hk' h1 h2 hs he hk
   ·split at htr
    ·cases htr; exact op_bin hop h1 h2 hs he hk
    ·cases htr; exact op_bin hop h1 h2 hs he hk
    ·cases htr
  ·cases htr
 ·simp only [Option.map_eq_some_iff] at htr; obtain ⟨y,hy,rfl⟩:=htr; exact op_un hop hy hs he hk
 ·split at htr
  ·rename_i h1 h2 h3; cases htr; exact op_conv hop h1 h2 h3 hs he hk
  ·rename_i h1 h2 h3
   split at htr
   ·rename_i hb; cases htr
   ·cases htr
  ·rename_i h1 h2 h3
   split at htr
   ·rename_i hb; cases htr
   ·cases htr
  ·rename_i h1 h2 h3; cases htr
  ·rename_i h1 h2 h3
   split at htr
   ·rename_i hb
    obtain ⟨hb,rfl⟩:=hb
    cases htr
   ·cases htr
  ·rename_i h1 h2 h3
   split at htr
   ·rename_i k h4
    split at htr
    ·cases htr
    ·rename_i h5; cases htr
   ·cases htr
  ·rename_i h1 h2 h3
   split at htr
   ·rename_i k h4
    split at htr
    ·cases htr
    ·rename_i h5; cases htr
   ·cases htr
  ·cases htr
 ·split at htr
  ·cases htr
  ·rename_i d h1 h2
   cases htr
  ·cases htr
 ·split at htr
  ·cases htr
  ·rename_i d h1 h2
   split at htr
   ·rename_i i h3
    split at htr
    ·rename_i z h4
     cases htr
    ·cases htr
   ·cases htr
  ·cases htr
 ·split at htr
  ·rename_i h1
   cases htr
  ·cases htr
 ·cases htr
 ·cases htr; exact op_mkmap hop (.inl rfl) hs he hk
 ·split at htr
  ·rename_i h1; cases htr; exact op_mkmap hop (.inr ⟨⟨_,_,rfl⟩,_,_,h1⟩) hs he hk
  ·cases htr
 ·split at htr
  ·rename_i h1
   split at htr
   ·rename_i h2 h3
    split at htr
    ·rename_i h4 h5 h6; cases htr; exact op_mlk hop h1 h2 h3 h4 h5 h6 hs he hk
    ·cases htr
   ·rename_i h2 h3
    split at htr
    ·rename_i hk2
     split at htr
     ·rename_i h4 h5 h6; cases htr; exact op_mlk2 hop h1 hk2 h3 h4 h5 h6 hs he hk
     ·cases htr
    ·cases htr
   ·cases htr
  ·cases htr
 ·split at htr
  ·rename_i h1
   split at htr
   ·rename_i h2 h3 h4 h5; cases htr; exact op_mup (.inl hop) h1 h2 h3 h4 h5 hs he hk
   ·rename_i h2 h3 h4 h5
    split at htr
    ·rename_i hk2; cases htr; exact op_mup2 (.inl hop) h1 hk2 h3 h4 h5 hs he hk
    ·cases htr
   ·cases htr
  ·cases htr
 ·split at htr
  ·rename_i h1
   split at htr
   ·rename_i h2 h3 h4 h5; cases htr; exact op_mup (.inr hop) h1 h2 h3 h4 h5 hs he hk
   ·rename_i h2 h3 h4 h5
    split at htr
    ·rename_i hk2; cases htr; exact op_mup2 (.inr hop) h1 hk2 h3 h4 h5 hs he hk
    ·cases htr
   ·cases htr
  ·cases htr
 ·simp only [Option.map_eq_some_iff] at htr; obtain ⟨y,hy,rfl⟩:=htr; exact op_mkfn hop hy hs he hk
 ·split at htr
  ·rename_i e h1
   split at htr
   ·rename_i i z l' c' h2 h3 h4 h5
    split at htr
    ·rename_i hb; cases htr; exact op_make hop h1 h2 h3 hb.1 hb.2 h4 h5 hs he hk
    ·cases htr
   ·cases htr
  ·cases htr
 ·split at htr
  ·rename_i x lo hi mx h1 h2 h3 h4
   split at htr
   ·rename_i ht
    split at htr
    ·cases htr
     have h5:∀ q:Option Operand,oopd P q=some none→q=none:=by
      intro q hq
      cases q with
      | none=>rfl
      | some z=>simp [oopd] at hq
     obtain rfl:=h5 _ h4
     exact op_slcS hop ht h1 h2 h3 hs he hk
    ·cases htr
   ·rename_i e ht
    simp only [Option.map_eq_some_iff] at htr; obtain ⟨sz,hz,rfl⟩:=htr
    exact op_slcL hop ht hz h1 h2 h3 h4 hs he hk
   ·rename_i n e ht
    simp only [Option.map_eq_some_iff] at htr; obtain ⟨sz,hz,rfl⟩:=htr
    exact op_slcA hop ht hz h1 h2 h3 h4 hs he hk
   ·cases htr
  ·cases htr
 ·split at htr
  ·rename_i fs x h1 h2
   split at htr
   ·rename_i fd h3
    split at htr
    ·rename_i k h4
     split at htr
     ·cases htr
     ·rename_i h5; cases htr; exact op_faddr hop h1 h3 h4 h5 h2 hs he hk
    ·cases htr
   ·cases htr
  ·cases htr
 ·split at htr
  ·rename_i fs x h1 h2
   split at htr
   ·rename_i fd h3
    split at htr
    ·rename_i k h4 h5; cases htr; exact op_fldk hop h1 h3 h4 h5 h2 hs he hk
    ·rename_i k h4 h5; cases htr; exact op_fld1 hop h1 h3 h4 h2 hs he hk
    ·cases htr
   ·cases htr
  ·cases htr
 ·split at htr
  ·rename_i h1 h2 h3
   simp only [Option.map_eq_some_iff] at htr; obtain ⟨sz,hz,rfl⟩:=htr
   exact op_iaddrL hop h1 hz h2 h3 hs he hk
  ·rename_i h1 h2 h3
   simp only [Option.map_eq_some_iff] at htr; obtain ⟨sz,hz,rfl⟩:=htr
   exact op_iaddrA hop h1 hz h2 h3 hs he hk
  ·cases htr
 ·split at htr
  ·rename_i h1 h2 h3; cases htr; exact op_idxS hop h1 h2 h3 hs he hk
  ·rename_i h1 h2 h3
   split at htr
   ·rename_i h4 h5; cases htr; exact op_idxA hop h1 h4 h5 h2 h3 hs he hk
   ·cases htr
  ·cases htr
 ·simp only [Option.map_eq_some_iff] at htr; obtain ⟨y,hy,rfl⟩:=htr; exact op_ext hop hy hs he hk
 ·split at htr
  ·rename_i fn hfn
   split at htr
   ·simp only [Option.map_eq_some_iff] at htr; obtain ⟨l,hl,rfl⟩:=htr; exact op_call hc hop hl hs he hk
   ·rename_i hbody
    split at htr
    ·rename_i hor
     split at htr
     ·rename_i hname
      split at htr
      ·rename_i x hx; cases htr; exact op_noescape hop hfn hbody hor hname hx hs he hk
      ·cases htr
     ·split at htr
      ·rename_i hname
       split at htr
       ·rename_i t hres
        split at htr
        ·rename_i e ht
         split at htr
         ·split at htr
          ·rename_i x hx; cases htr
          ·cases htr
         ·cases htr
        ·cases htr
       ·cases htr
      ·cases htr
    ·cases htr
  ·cases htr
 ·simp only [Option.map_eq_some_iff] at htr; obtain ⟨l,hl,rfl⟩:=htr; exact op_callv hc hop hl hs he hk
 ·split at htr
  ·rename_i h1 h2; cases htr; exact op_lenS hop h1 h2 hs he hk
  ·rename_i h1 h2; cases htr; exact op_lenL hop h1 h2 hs he hk
  ·rename_i h1 h2; cases htr; exact op_lenM hop h1 h2 hs he hk
  ·cases htr
 ·split at htr
  ·rename_i h1 h2; cases htr
  ·cases htr
 ·split at htr
  ·rename_i h1 h2; cases htr
  ·rename_i h1 h2
   split at htr
   ·rename_i h3 h4
    split at htr
    ·rename_i h5; cases htr
    ·cases htr
   ·cases htr
  ·cases htr
 ·split at htr
  ·rename_i h1 h2 h3
   split at htr
   ·rename_i k h4
    split at htr
    ·cases htr
    ·cases htr
   ·cases htr
  ·cases htr
 ·cases htr
 ·split at htr
  ·rename_i h1 h2 h3
   split at htr
   ·rename_i hb; cases htr
   ·cases htr
  ·cases htr
 ·split at htr
  ·rename_i h1 h2 h3 h4
   split at htr
   ·rename_i h5 h6
    split at htr
    ·rename_i hb; cases htr; exact op_app hb.2.2 (fun u hu=>byteTy_ok hu) hop h1 h2 h5 h6 hb.1 hb.2.1 h3 h4 hs he hk
    ·cases htr
   ·cases htr
  ·cases htr
 ·simp only [Option.map_eq_some_iff] at htr; obtain ⟨l,hl,rfl⟩:=htr; exact op_max hop hl hs he hk
 ·simp only [Option.map_eq_some_iff] at htr; obtain ⟨l,hl,rfl⟩:=htr; exact op_min hop hl hs he hk
 ·cases htr
def Stands (P:Program) (ρ:Rho) (lam:Nat→Nat) (s:St) (w:World) (s':St) (a':Act) (w':World):Prop:=
 ∃ ρ' lam',SR P ρ' lam' s' a' w'∧ρ.le ρ'∧Fr (OwnS ρ lam s) (AliveS ρ lam s) w (OwnS ρ' lam' s') (AliveS ρ' lam' s') w'
theorem Stands.trans {lam':Nat→Nat} {s1 s2:St} {w1 w2:World} {a2:Act} (hle:ρ.le ρ') (hfr:Fr (OwnS ρ lam s) (AliveS ρ lam s) w (OwnS ρ' lam' s1) (AliveS ρ' lam' s1) w1)
  (h:Stands P ρ' lam' s1 w1 s2 a2 w2):Stands P ρ lam s w s2 a2 w2:=by
 obtain ⟨ρ2,lam2,h1,h2,h3⟩:=h
 exact ⟨ρ2,lam2,h1,Rho.le_trans hle h2,hfr.trans h3⟩
theorem trOper_dst {H:Hints} {ops:Array Oper} {o:Oper}:(trOper P H ops o).dst=o.dst:=by
 unfold trOper
 split
 ·rfl
 ·split <;> rfl
theorem trOper_op {H:Hints} {ops:Array Oper} {o:Oper}:(trOper P H ops o).op=.bad∨∃ ao,trOp P H o.dst o.op=some ao∧(trOper P H ops o).op=ao:=by
 have hh:(trOper P H ops o).op=(trOp P H o.dst o.op).getD .bad∨(trOper P H ops o).op=.bad:=by
  unfold trOper
  split
  ·exact .inl rfl
  ·split
   ·exact .inl rfl
   ·exact .inr rfl
 rcases hh with hh | hh
 ·cases htr:trOp P H o.dst o.op with
  | none=>left; rw [hh,htr]; rfl
  | some ao=>right; exact ⟨ao,rfl,by rw [hh,htr]; rfl⟩
 ·exact .inl hh
theorem trOper_guard {H:Hints} {ops:Array Oper} {o:Oper}:(∃ j want t,o.guard=some (j,want)∧(ops[j]?).bind (·.dst)=some t∧(trOper P H ops o).guard=some (t,want))∨
  (o.guard=none∧(trOper P H ops o).guard=none)∨((trOper P H ops o).op=.bad∧(trOper P H ops o).guard=none):=by
 unfold trOper
 cases ho:o.guard with
 | none=>exact .inr (.inl ⟨rfl,rfl⟩)
 | some jw=>
  obtain ⟨j,want⟩:=jw
  dsimp only
  cases ht:(ops[j]?).bind (·.dst) with
  | none=>exact .inr (.inr ⟨rfl,rfl⟩)
  | some t=>exact .inl ⟨j,want,t,rfl,ht,rfl⟩
theorem oper_ok {H:Hints} {ops:Array Oper} {o:Oper} {K:Act→World→Prop} {Q:Exit→Act→World→Prop} {X:Prop} (hc:CallOk P call) (hs:SR P ρ lam s a w)
  (he:oneEv call (trOper P H ops o) s=some s') (hk:∀ a' w',Stands P ρ lam s w s' a' w'→K a' w'):
  if Region.wanted o (yielded ops a.tmps) then o.wp P a w K Q∨X else K (a.put o.dst undef) w:=by
 unfold oneEv at he
 have yes:Region.wanted o (yielded ops a.tmps)=true→(match opEv call (trOper P H ops o).op s with
   | some (v,s1)=>s1.put (trOper P H ops o).dst v
   | none=>none)=some s'→if Region.wanted o (yielded ops a.tmps) then o.wp P a w K Q∨X else K (a.put o.dst undef) w:=by
  intro hw he
  rw [if_pos hw]
  left
  split at he
  ·rename_i v s1 hop
   rcases trOper_op (P:=P) (H:=H) (ops:=ops) (o:=o) with hbad | ⟨ao,h1,h2⟩
   ·rw [hbad] at hop; simp [opEv] at hop
   ·rw [h2] at hop
    rw [trOper_dst] at he
    refine op_sound hc h1 hs hop (fun ρ' lam' r w' hv hl hs' hle hfr=>hk _ _ ?_)
    obtain ⟨m1,m2,m3⟩:=put_m he
    refine ⟨ρ',lam',hs'.put hv hl he,hle,?_⟩
    unfold OwnS AliveS at hfr ⊢
    rw [m1,m2]; exact hfr
  ·cases he
 have no:Region.wanted o (yielded ops a.tmps)=false→s.put (trOper P H ops o).dst (.tup [])=some s'→if Region.wanted o (yielded ops a.tmps) then o.wp P a w K Q∨X else K (a.put o.dst undef) w:=by
  intro hw he
  rw [if_neg (by rw [hw]; simp)]
  rw [trOper_dst] at he
  obtain ⟨m1,m2,m3⟩:=put_m he
  refine hk _ _ ⟨ρ,lam,hs.put (r:=undef) (by simp [VT,VR,VRs,undef]) (fun t o e=>by cases e) he,ρ.le_refl,?_⟩
  have:=Fr.refl (OwnS ρ lam s) (AliveS ρ lam s) w
  unfold OwnS AliveS at this ⊢
  rw [m1,m2]; exact this
 rcases trOper_guard (P:=P) (H:=H) (ops:=ops) (o:=o) with ⟨j,want,t,h1,h2,h3⟩ | ⟨h1,h3⟩ | ⟨hbad,h3⟩
 ·rw [h3] at he
  simp only [guardEv] at he
  have hbt:=hs.tmp t
  have hty:∀ r,a.tmps.getD t undef=r→r≠undef→a.tmps[t]?=some r:=by
   intro r hr hne
   cases hh:a.tmps[t]? with
   | none=>exfalso; apply hne; rw [←hr]; simp [Array.getD_eq_getD_getElem?,hh]
   | some x=>simp [Array.getD_eq_getD_getElem?,hh] at hr; rw [hr]
  have hbool:∀ b,look s.t t=.bool b→Region.wanted o (yielded ops a.tmps)=(b == want):=by
   intro b hb
   rw [hb] at hbt; simp only [VT,VR] at hbt
   have:=hty _ hbt (by simp [undef])
   simp [Region.wanted,h1,yielded,h2,this]
  have htup:∀ l,look s.t t=.tup l→Region.wanted o (yielded ops a.tmps)=false:=by
   intro l hb
   rw [hb] at hbt; simp only [VT,VR] at hbt
   obtain ⟨rs,hbt,_⟩:=hbt
   have hno:∀ b,a.tmps[t]?≠some (.bool b):=by
    intro b hh
    simp [Array.getD_eq_getD_getElem?,hh] at hbt
   have hy:yielded ops a.tmps j=none:=by
    unfold yielded
    rw [h2,Option.bind_some]
    split
    ·rename_i b hh; exact absurd hh (hno b)
    ·rfl
   simp only [Region.wanted,h1,hy]
   rfl
  cases hl:look s.t t <;> simp only [hl] at he
  case bool b=>
   cases hbw:(b == want)
   ·rw [hbw] at he; exact no (by rw [hbool b hl]; exact hbw) he
   ·rw [hbw] at he; exact yes (by rw [hbool b hl]; exact hbw) he
  case tup l=>exact no (htup l hl) he
  all_goals cases he
 ·rw [h3] at he
  simp only [guardEv] at he
  exact yes (by simp [Region.wanted,h1]) he
 ·rw [hbad,h3] at he
  simp [guardEv,opEv] at he
theorem ops_ok {H:Hints} {ops:Array Oper} {Q:Exit→Act→World→Prop} (hc:CallOk P call):∀ (l:List Oper) (s:St) (ρ:Rho) (lam:Nat→Nat) (a:Act) (w:World) (s':St),
  SR P ρ lam s a w→opsEv call (l.map (trOper P H ops)) s=some s'→(∀ a' w',Stands P ρ lam s w s' a' w'→Q .normal a' w')→wpList P ops Q l a w
 | [],s,ρ,lam,a,w,s',hs,he,hk=>by
  simp only [List.map_nil,opsEv,Option.some.injEq] at he
  subst he
  exact hk a w ⟨ρ,lam,hs,ρ.le_refl,Fr.refl _ _ _⟩
 | o::l,s,ρ,lam,a,w,s',hs,he,hk=>by
  simp only [List.map_cons,opsEv] at he
  split at he
  ·rename_i s1 h1
   simp only [wpList]
   refine oper_ok hc hs h1 (fun a' w' hst=>?_)
   obtain ⟨ρ1,lam1,q1,q2,q3⟩:=hst
   exact ops_ok hc l s1 ρ1 lam1 a' w' s' q1 he (fun a'' w'' h=>hk a'' w'' (Stands.trans q2 q3 h))
  ·cases he
end
end
end AG
