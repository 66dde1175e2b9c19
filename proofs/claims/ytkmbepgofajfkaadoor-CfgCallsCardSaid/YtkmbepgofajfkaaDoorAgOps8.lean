/- The abstract machine, part 31: maps whose keys are pairs of numbers. -/
import Derived.Test.YtkmbepgofajfkaaDoorAgOps7
namespace AG
noncomputable section
open Go
variable {P:Program} {ρ:Rho} {lam:Nat→Nat} {s s':St} {a:Act} {w:World} {o:Oper} {v:AV} {call:Caller} {next:Act→World→Prop} {Q:Exit→Act→World→Prop}
theorem key2_inv {kt:TypeId} (h:key2 P kt=true):∃ e k i,P.underlying kt=some (.array 2 e)∧P.underlying e=some (.int k)∧P.info? e=some i∧i.size=1:=by
 unfold key2 at h
 split at h
 ·rename_i e he
  split at h
  ·rename_i k i hk hi
   exact ⟨e,k,i,he,hk,hi,by simpa using h⟩
  ·cases h
 ·cases h
theorem keyEq2_inv {x y:AV} {b:Bool} (h:keyEq2 x y=some b):∃ m n m' n',x=.agg [.int .i64 m,.int .i64 n]∧y=.agg [.int .i64 m',.int .i64 n']∧b=(m == m'&&n == n'):=by
 unfold keyEq2 at h
 split at h
 ·cases h; exact ⟨_,_,_,_,rfl,rfl,rfl⟩
 ·cases h
theorem vr_pair {m n:Int} {r:Value} (h:VR ρ (.agg [.int .i64 m,.int .i64 n]) r):r=.agg #[.int .i64 m,.int .i64 n]:=by
 simp only [VR,VRs] at h
 obtain ⟨rs,rfl,r1,l1,e1,rfl,r2,l2,rfl,rfl,rfl⟩:=h
 congr 1
 exact Array.toList_inj.1 e1
theorem ck_pair (d:Nat) (em:Bool) {kt:TypeId} (h:key2 P kt=true) (m n:Int) (w:World):(Instr.checkKey em (d+2) kt (.agg #[.int .i64 m,.int .i64 n])).run P w=.ok () w:=by
 obtain ⟨e,k,i,h1,h2,h3,h4⟩:=key2_inv h
 have hg:aggq P e=some false:=by unfold aggq; simp [h2]
 have p0:(part e #[.int .i64 m,.int .i64 n] 0).run P w=.ok (.int .i64 m) w:=run_part hg (by rfl) w
 have p1:(part e #[.int .i64 m,.int .i64 n] 1).run P w=.ok (.int .i64 n) w:=run_part hg (by rfl) w
 have c:=fun rx=>run_ck_int d em h2 rx w
 rw [Instr.checkKey]
 simp [run_underlying h1,run_sizeOf h3,h4,p0,p1,c,List.range'_succ]
theorem eq_pair {kt:TypeId} (h:key2 P kt=true) (m n m' n':Int) (w:World):(Op.equal kt (.agg #[.int .i64 m,.int .i64 n]) (.agg #[.int .i64 m',.int .i64 n'])).run P w=.ok (m == m'&&n == n') w:=by
 obtain ⟨e,k,i,h1,h2,h3,h4⟩:=key2_inv h
 have hc:P.cellsOf e=1:=by unfold Program.cellsOf; rw [h3]; exact h4
 show (Op.equalIn 10000 kt _ _).run P w=_
 rw [run_equalIn_array w 9999 _ _ h1 h3]
 have:=items_ok (P:=P) (ρ:=[]) 9998 (P.cellsOf e) (e:=e) ⟨k,h2⟩ (List.range 2) (xs:=[.int .i64 m,.int .i64 n]) (ys:=[.int .i64 m',.int .i64 n']) (rx:=#[.int .i64 m,.int .i64 n]) (ry:=#[.int .i64 m',.int .i64 n']) (b:=(m == m'&&n == n')) (by simp [VRs,VR]) (by simp [VRs,VR]) (by
  rw [hc]
  simp only [List.range_succ,List.range_zero,List.nil_append,List.cons_append,List.map_cons,List.map_nil,leavesEq,Nat.zero_mul,Nat.one_mul,List.getElem?_cons_zero,List.getElem?_cons_succ,leafEq,if_true]
  by_cases q:m=m'
  ·subst q; by_cases q2:n=n'
   ·subst q2; simp
   ·have:(n == n')=false:=by simpa using q2
    simp [this]
  ·have:(m == m')=false:=by simpa using q
   simp [this]) w
 first | exact this | simpa using this
theorem same_pair (d:Nat) (m n:Int):Instr.sameBits (d+1) (.agg #[.int .i64 m,.int .i64 n]) (.agg #[.int .i64 m,.int .i64 n])=true:=by
 simp [Instr.sameBits,same_int]
theorem findA_ask {kt:TypeId} (hk:key2 P kt=true) {x:AV} {rx:Value} (hx:VR ρ x rx):∀ {es:List (AV×AV×Nat)} {l:List MapEntry} {i:Nat} {q:Option (Nat×AV)},ERs ρ es l→findA x es i=some q→
  match q with
  | none=>∀ w,(Instr.findAsking kt rx l i).run P w=.ok none w
  | some (j,v)=>∃ e,i≤j∧l[j - i]?=some e∧VR ρ v e.val∧(∀ w,(Instr.findAsking kt rx l i).run P w=.ok (some (j,e.val)) w)∧Instr.sameBits 10000 e.key rx=true
 | [],l,i,q,h,he=>by
  simp only [ERs] at h; subst h
  simp only [findA,Option.some.injEq] at he; subst he
  intro w; simp [Instr.findAsking]
 | (u,v,b)::es,l,i,q,h,he=>by
  simp only [ERs] at h
  obtain ⟨e,r,rfl,h1,h2,h3,h4⟩:=h
  unfold findA at he
  split at he
  ·rename_i heq
   simp only [Option.some.injEq] at he; subst he
   obtain ⟨m,n,m',n',rfl,rfl,hb⟩:=keyEq2_inv heq
   have ex:=vr_pair hx
   have eu:=vr_pair h1
   have hb':m=m'∧n=n':=by simpa using hb.symm
   obtain ⟨rfl,rfl⟩:=hb'
   have hq:=fun w=>eq_pair hk m n m n w
   refine ⟨e,Nat.le_refl _,by simp,h2,fun w=>?_,?_⟩
   ·rw [ex,Instr.findAsking,eu]
    simp [hq]
   ·rw [ex,eu]; exact same_pair 9999 m n
  ·rename_i heq
   obtain ⟨m,n,m',n',rfl,rfl,hb⟩:=keyEq2_inv heq
   have ex:=vr_pair hx
   have eu:=vr_pair h1
   have hq:=fun w=>eq_pair hk m n m' n' w
   rw [←hb] at hq
   have ih:=findA_ask hk hx h4 he
   have hs:∀ w,(Instr.findAsking kt rx (e::r) i).run P w=(Instr.findAsking kt rx r (i+1)).run P w:=fun w=>by
    rw [ex,Instr.findAsking,eu]
    simp [hq]
   cases q with
   | none=>exact fun w=>(hs w).trans (ih w)
   | some jv=>
    obtain ⟨j,v'⟩:=jv
    obtain ⟨e',q1,q2,q3,q4,q5⟩:=ih
    refine ⟨e',by omega,?_,q3,fun w=>(hs w).trans (q4 w),q5⟩
    have:j - i=(j - (i+1))+1:=by omega
    rw [this]; simpa using q2
  ·cases he
theorem run_findKey2 {kt:TypeId} (hk:key2 P kt=true) (m n:Int) {l:List MapEntry} (w:World) {q:Option (Nat×Value)} (h:(Instr.findAsking kt (.agg #[.int .i64 m,.int .i64 n]) l 0).run P w=.ok q w):(Instr.findKey kt (.agg #[.int .i64 m,.int .i64 n]) l).run P w=.ok q w:=by
 obtain ⟨e,k,i,h1,h2,h3,h4⟩:=key2_inv hk
 cases l with
 | nil=>
  simp [Instr.findAsking] at h
  simp [Instr.findKey,run_underlying h1,Instr.findNow,h]
 | cons x r=>
  simp only [Instr.findKey,Sem.run_bind,run_underlying h1,Result.andThen_ok,Instr.findNow,Instr.sameNow]
  exact h
theorem op_mlk2 {t kt e:TypeId} {i':TypeInfo} {z:Value} {ok:Bool} {x i:Operand} {x' i'':Opd} (ho:o.op=.lookup t x i ok) (ht:P.underlying t=some (.map kt e)) (hkk:key2 P kt=true) (hi':P.info? e=some i') (hz:i'.zero=some z)
  (hx:opd P x=some x') (hi:opd P i=some i'') (hs:SR P ρ lam s a w)
  (he:opEv call (.xm (.mlk2 (cAV z) ok) [x',i'']) s=some (v,s')) (hk:After P ρ lam s a w v s' o.dst next):o.wp P a w next Q:=by
 obtain ⟨hl,m',he',rfl⟩:=xm_inv he
 clear he
 simp only [List.map_cons,List.map_nil,List.any_cons,Bool.or_eq_false_iff] at he' hl
 have h:=hs.opd hx
 have g:=(hs.opd hi).vr hl.2.1
 have hzv:=cAV_ok ρ z
 generalize s.opd x'=X at he' h
 generalize s.opd i''=I at he' g
 cases X <;> try (simp only [xmEv,reduceCtorEq] at he'; done)
 case map B=>
  simp only [xmEv] at he'
  split at he'
  rotate_left
  ·cases he'
  rename_i hii
  obtain ⟨m,n,_,_,rfl,_,_⟩:=keyEq2_inv hii
  have gi:=vr_pair g
  have hck:=fun em w=>ck_pair (P:=P) 9998 em hkk m n w
  split at he'
  rotate_left
  ·cases he'
  rename_i es c hb
  simp only [VT,VR] at h
  obtain ⟨Z,hZ,hr⟩:=h
  obtain ⟨Z',res,hZ',g1,g2⟩:=map_at hs hb
  rw [hZ] at hZ'; cases hZ'
  have hg:=run_getObj_map (P:=P) w g1
  have key:∀ (nd:Option (Nat×Value)) (av:AV),(Instr.findAsking kt (.agg #[.int .i64 m,.int .i64 n]) res.toList 0).run P w=.ok nd w→VR ρ av ((nd.map (·.2)).getD z)→v=(if ok then .tup [av,.bool nd.isSome] else av)→m'=s.m→o.wp P a w next Q:=by
   intro nd av h1 h2 h3 h4
   subst h3; subst h4
   have hnd:=run_findKey2 hkk m n w h1
   have hrun:(Instr.lookup t (.map (some Z.blk)) (a.eval i) ok).run P w=.ok (if ok then .tuple #[(nd.map (·.2)).getD z,.bool nd.isSome] else (nd.map (·.2)).getD z) w:=by
    rw [gi]
    cases nd with
    | none=>cases ok <;> simp [Instr.lookup,run_underlying ht,hck,hg,hnd,run_zero hi' hz]
    | some jv=>obtain ⟨j,u⟩:=jv; cases ok <;> simp [Instr.lookup,run_underlying ht,hck,hg,hnd]
   refine ok_plain hs hk (r:=if ok then .tuple #[(nd.map (·.2)).getD z,.bool nd.isSome] else (nd.map (·.2)).getD z) (by simp [execOp,ho,hr,hrun]) ?_
   cases ok
   ·simpa using h2
   ·simp only [if_true,VR]; exact ⟨_,rfl,by simp only [VRs]; exact ⟨_,_,rfl,h2,_,_,rfl,by simp [VR],rfl⟩⟩
  split at he'
  ·rename_i j u hf
   simp only [Option.some.injEq,Prod.mk.injEq] at he'
   obtain ⟨en,_,q2,q3,q4,_⟩:=findA_ask hkk g g2 hf
   rw [gi] at q4
   exact key (some (j,en.val)) u (q4 w) (by simpa using q3) (by rw [←he'.1]; cases ok <;> simp) he'.2.symm
  ·rename_i hf
   simp only [Option.some.injEq,Prod.mk.injEq] at he'
   have q4:=findA_ask hkk g g2 hf
   rw [gi] at q4
   exact key none (cAV z) (q4 w) (by simpa using hzv) (by rw [←he'.1]; cases ok <;> simp) he'.2.symm
  ·cases he'
theorem op_mup2 {t kt e:TypeId} {x i y:Operand} {x' i' y':Opd} (ho:o.op=.mapUpdate t x i y∨o.op=.insert t x i y) (ht:P.underlying t=some (.map kt e)) (hkk:key2 P kt=true)
  (hx:opd P x=some x') (hi:opd P i=some i') (hy:opd P y=some y') (hs:SR P ρ lam s a w)
  (he:opEv call (.xm .mup2 [x',i',y']) s=some (v,s')) (hk:After P ρ lam s a w v s' o.dst next):o.wp P a w next Q:=by
 obtain ⟨hl,m',he',rfl⟩:=xm_inv he
 clear he
 simp only [List.map_cons,List.map_nil,List.any_cons,Bool.or_eq_false_iff] at he' hl
 have h:=hs.opd hx
 have g:=(hs.opd hi).vr hl.2.1
 have u:=(hs.opd hy).vr hl.2.2.1
 generalize s.opd x'=X at he' h
 generalize s.opd i'=I at he' g
 generalize s.opd y'=Y at he' u
 have exec:∀ V w',a.eval x=V→(Instr.mapUpdate t V (a.eval i) (a.eval y)).run P w=.ok () w'→(execOp a.eval o).run P w=.ok .skip w':=by
  intro V w' e1 e2
  rcases ho with ho | ho <;> simp [execOp,ho,e1,e2]
 cases X <;> try (simp only [xmEv,reduceCtorEq] at he'; done)
 case map B=>
  simp only [xmEv] at he'
  simp only [VT,VR] at h
  obtain ⟨Z,hZ,hr⟩:=h
  split at he'
  ·rename_i es c hb
   split at he'
   rotate_left
   ·cases he'
   rename_i hii
   obtain ⟨m,n,_,_,rfl,_,_⟩:=keyEq2_inv hii
   have gi:=vr_pair g
   have hck:=fun em w=>ck_pair (P:=P) 9998 em hkk m n w
   obtain ⟨Z',res,hZ',g1,g2⟩:=map_at hs hb
   rw [hZ] at hZ'; cases hZ'
   have hlt:Z.blk < w.heap.size:=(Array.getElem?_eq_some_iff.1 g1).1
   have hg:=run_getObj_map (P:=P) w g1
   have hst:=fun o=>run_setObj_map (P:=P) w g1 o
   split at he'
   ·rename_i j u0 hf
    simp only [Option.some.injEq,Prod.mk.injEq] at he'
    obtain ⟨rfl,rfl⟩:=he'
    obtain ⟨en,_,q2,q3,q4,q5⟩:=findA_ask hkk g g2 hf
    rw [gi] at q4 q5
    have hfk:=run_findKey2 hkk m n w (q4 w)
    have hen:res[j]?=some en:=by simpa using q2
    have hrun:(Instr.mapUpdate t (.map (some Z.blk)) (a.eval i) (a.eval y)).run P w=.ok () { w with heap:=w.heap.setIfInBounds Z.blk (.map (res.modify j fun e=>{ e with key:=a.eval i,val:=a.eval y }) c) }:=by
     rw [gi]
     simp [Instr.mapUpdate,run_underlying ht,hck,hg,hfk,Instr.keyThatStays,hen,q5,hst]
    refine ok_skip hs hk (exec _ _ hr hrun) (MStep.set hs.mem hb rfl hZ rfl rfl rfl (by simp) (fun k' hk'=>setObj_ne w _ _ _ hk') (map_br (setObj_get w _ _ hlt) ?_))
    rw [Array.toList_modify]
    exact g2.set j g u
   ·rename_i hf
    simp only [Option.some.injEq,Prod.mk.injEq] at he'
    obtain ⟨rfl,rfl⟩:=he'
    have q4:=findA_ask hkk g g2 hf
    rw [gi] at q4
    have hfk:=run_findKey2 hkk m n w (q4 w)
    have hrun:(Instr.mapUpdate t (.map (some Z.blk)) (a.eval i) (a.eval y)).run P w=.ok () { w with heap:=w.heap.setIfInBounds Z.blk (.map (res.push { key:=a.eval i,val:=a.eval y,born:=c }) (c+1)) }:=by
     rw [gi]
     simp [Instr.mapUpdate,run_underlying ht,hck,hg,hfk,hst]
    refine ok_skip hs hk (exec _ _ hr hrun) (MStep.set hs.mem hb rfl hZ rfl rfl rfl (by simp) (fun k' hk'=>setObj_ne w _ _ _ hk') (map_br (setObj_get w _ _ hlt) ?_))
    rw [Array.toList_push]
    exact g2.snoc g u rfl
   ·cases he'
  ·cases he'
end
end AG
