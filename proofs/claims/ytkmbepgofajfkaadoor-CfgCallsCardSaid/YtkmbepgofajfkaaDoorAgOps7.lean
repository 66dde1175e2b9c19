/- The abstract machine, part 10b: operations of values and the memory alone. -/
import Derived.Test.YtkmbepgofajfkaaDoorAgOps6
import Derived.Lib.UnsafeStr
import Derived.Lib.ConvBytes
import Derived.Lib.MakeNoZero
import Derived.Laws.BytesString
import Derived.Laws.Externs
import Derived.KernelRfl
namespace AG
noncomputable section
open Go Go.RowKit
section
variable {P:Program} {ρ ρ':Rho} {m m':Mem} {w w':World}
theorem MStep.fresh (hm:MR P ρ m w) (hf:m.full=false) {b:ABlk} {x:At} (hx:x.blk=w.heap.size) (hos:w'.os=w.os) (htape:w'.tape=w.tape) (hout:w'.output=w.output) (hsz:w.heap.size≤w'.heap.size)
  (hold:∀ k,k < w.heap.size→w'.heap[k]?=w.heap[k]?) (hb:BR ρ x w' b) (hd:w.drawn≤w'.drawn:=by first | exact Nat.le_refl _ | exact Nat.le_add_right _ _ | exact Nat.le_trans (Nat.le_succ _) (Nat.le_succ _) | simp):MStep P ρ m w (ρ++[x]) (m.push b) w':=by
 have hna:¬AliveM ρ m x.blk:=fun h=>by have:=AliveM.lt hm h; omega
 refine ⟨hm.push hf hna (fun k hk=>hold k (AliveM.lt hm hk)) hb,Rho.le_append _ _,⟨hos,htape,hout,hsz,fun k hk _=>hold k hk,fun k hk=>?_,fun k hk=>?_,hd⟩⟩
 ·rcases OwnM.push hm hf hk with h | h
  ·exact .inl h
  ·exact .inr (by omega)
 ·rcases AliveM.push hm hf hk with h | h
  ·exact .inl h
  ·exact .inr (by omega)
end
section
variable {P:Program} {o:Oper} {a:Act} {w w':World} {next:Act→World→Prop} {Q:Exit→Act→World→Prop}
variable {ρ ρ':Rho} {lam:Nat→Nat} {s s':St} {v:AV} {r:Value} {call:Caller}
theorem xm_inv {k:XM} {l:List Opd} (he:opEv call (.xm k l) s=some (v,s')):(l.map s.opd).any AV.isLoc=false∧∃ m',xmEv k (l.map s.opd) s.m=some (v,m')∧s'={ s with m:=m' }:=by
 simp only [opEv,callWith] at he
 split at he
 ·cases he
 ·rename_i hl
  split at he
  ·rename_i u m' h1
   simp only [Option.some.injEq,Prod.mk.injEq] at he
   obtain ⟨rfl,rfl⟩:=he
   exact ⟨by simpa using hl,m',h1,rfl⟩
  ·cases he
theorem setObj_get (w:World) (r:Nat) (o:Obj) (h:r < w.heap.size):({ w with heap:=w.heap.setIfInBounds r o }:World).heap[r]?=some o:=by
 simp [h]
theorem setObj_ne (w:World) (r k:Nat) (o:Obj) (h:k≠r):({ w with heap:=w.heap.setIfInBounds r o }:World).heap[k]?=w.heap[k]?:=by
 simp [Ne.symm h]
theorem find_noescape {fn:Func} (h:fn.name= "internal/abi.NoEscape"):Extern.find fn=some Extern.AbiNoEscape.same:=by
 unfold Extern.find
 rw [h]
 have h1:Extern.allGenericRows.lookup "internal/abi.NoEscape"=none:=by kernel_rfl
 have h2:Extern.allTypedRows.lookup "internal/abi.NoEscape"=none:=by kernel_rfl
 have h3:Extern.allRows.lookup "internal/abi.NoEscape"=some Extern.AbiNoEscape.same:=by kernel_rfl
 simp only [h1,h2,h3]; rfl
theorem next_noescape {fn:Func} (h:fn.name= "internal/abi.NoEscape") (ho:fn.origin=fn.name∨fn.origin= ""):Extern.findNext fn=none:=by
 have h1:Extern.allNextRows.lookup "internal/abi.NoEscape"=none:=by kernel_rfl
 have h2:Extern.allNextRows.lookup ""=none:=by kernel_rfl
 unfold Extern.findNext
 rcases ho with ho | ho <;> rw [ho,h]
 ·simp only [h1]; rfl
 ·simp only [h1,h2]; rfl
theorem op_noescape {f:FuncId} {fn:Func} {args:Array Operand} {ts:Array TypeId} {x':Opd} (ho:o.op=.call { callee:=.value (.func f),args,argTypes:=ts }) (hf:P.funcs[f]?=some fn) (hb:fn.body=none) (hor:fn.origin=fn.name∨fn.origin= "") (hname:fn.name= "internal/abi.NoEscape")
  (hl:opds P args.toList=some [x']) (hs:SR P ρ lam s a w) (he:opEv call (.mov x') s=some (v,s')) (hk:After P ρ lam s a w v s' o.dst next):o.wp P a w next Q:=by
 simp only [opEv,Option.some.injEq,Prod.mk.injEq] at he
 obtain ⟨rfl,rfl⟩:=he
 have hlist:∃ x,args=#[x]∧opd P x=some x':=by
  obtain ⟨l⟩:=args
  cases l with
  | nil=>simp [opds] at hl
  | cons x r=>
   simp only [opds] at hl
   split at hl
   ·rename_i y r' h1 h2
    simp only [Option.some.injEq,List.cons.injEq] at hl
    obtain ⟨rfl,rfl⟩:=hl
    cases r with
    | nil=>exact ⟨x,rfl,h1⟩
    | cons z r2=>
     simp only [opds] at h2
     split at h2 <;> simp at h2
   ·cases hl
 obtain ⟨x,rfl,hx⟩:=hlist
 refine ok_pure hs hk (r:=a.eval x) ?_ (hs.opd hx) (hs.opd_live hx)
 have h1:=run_callFunc_extern (P:=P) hf (by rw [hname]; decide) (by rw [hb]; rfl) (next_noescape hname hor) (find_noescape hname) #[a.eval x] w
 have hev:a.eval (.func f)=.func (.func f) #[] #[]:=rfl
 simp [execOp,ho,resolve,Deferred.ofValue,hev,invoke,h1,show Extern.AbiNoEscape.same #[a.eval x]=pure (a.eval x) from rfl]
theorem run_ck_int (n:Nat) (e:Bool) {kt:TypeId} {ik:IntKind} (hu:P.underlying kt=some (.int ik)) (rx:Value) (w:World):(Instr.checkKey e (n+1) kt rx).run P w=.ok () w:=by
 simp [Instr.checkKey,run_underlying hu]
theorem run_ck_str (n:Nat) (e:Bool) {kt:TypeId} (hu:P.underlying kt=some .string) (rx:Value) (w:World):(Instr.checkKey e (n+1) kt rx).run P w=.ok () w:=by
 simp [Instr.checkKey,run_underlying hu]
theorem same_int (n:Nat) (k:IntKind) (m:Int):Instr.sameBits n (.int k m) (.int k m)=true:=by
 cases n <;> simp [Instr.sameBits]
theorem beqB_symm {a b:ByteArray} (h:(a == b)=true):(b == a)=true:=by
 rw [beq_toListBytes] at h ⊢
 have:=eq_of_beq h
 simp [this]
theorem same_str (n:Nat) (m m':ByteArray) (h:(m == m')=true):Instr.sameBits n (.string m') (.string m)=true:=by
 have:=beqB_symm h
 cases n <;> simp only [Instr.sameBits,this]
theorem keyEq_ok {k:KeyK} {x y:AV} {rx ry:Value} {b:Bool} {kt:TypeId} (hk:keyK P kt=some k) (h:keyEq k x y=some b) (hx:VR ρ x rx) (hy:VR ρ y ry):
  ∃ d,P.underlying kt=some d∧Instr.sameNow d rx ry=some b∧(b=true→Instr.sameBits 10000 ry rx=true)∧∀ (e:Bool) (w:World),(Instr.checkKey e 10000 kt rx).run P w=.ok () w:=by
 unfold keyK at hk
 split at hk
 ·rename_i ik hu
  cases hk
  unfold keyEq at h
  split at h <;> try (first | (cases h; done) | (exfalso; simp_all; done))
  rename_i k1 m k2 n heq
  split at h
  ·rename_i hkk
   cases h; subst hkk
   simp only [VR] at hx hy; subst hx; subst hy
   refine ⟨_,hu,by simp [Instr.sameNow],fun hb=>?_,fun e w=>?_⟩
   ·simp only [beq_iff_eq] at hb; subst hb; exact same_int _ _ _
   ·exact run_ck_int 9999 e hu _ w
  ·cases h
 ·rename_i hu
  cases hk
  unfold keyEq at h
  split at h <;> try (first | (cases h; done) | (exfalso; simp_all; done))
  rename_i m n heq
  cases h
  simp only [VR] at hx hy; subst hx; subst hy
  refine ⟨_,hu,by simp [Instr.sameNow],fun hb=>?_,fun e w=>?_⟩
  ·exact same_str _ _ _ hb
  ·exact run_ck_str 9999 e hu _ w
 ·cases hk
def ERs (ρ:Rho):List (AV×AV×Nat)→List MapEntry→Prop
 | [],l=>l=[]
 | (k,v,b)::es,l=>∃ e r,l=e::r∧VR ρ k e.key∧VR ρ v e.val∧e.born=b∧ERs ρ es r
theorem ERs.of_get {ρ:Rho}:∀ {es:List (AV×AV×Nat)} {l:List MapEntry},l.length=es.length→(∀ (i:Nat) (k v:AV) (b:Nat),es[i]?=some (k,v,b)→∃ r,l[i]?=some r∧VR ρ k r.key∧VR ρ v r.val∧r.born=b)→ERs ρ es l
 | [],l,h,_=>by simp only [ERs]; simpa using h
 | (k,v,b)::es,l,h,hh=>by
  cases l with
  | nil=>simp at h
  | cons e r=>
   obtain ⟨e',h1,h2,h3,h4⟩:=hh 0 k v b rfl
   cases h1
   simp only [ERs]
   exact ⟨_,_,rfl,h2,h3,h4,ERs.of_get (by simpa using h) (fun i k v b hi=>by simpa using hh (i+1) k v b (by simpa using hi))⟩
theorem ERs.length {ρ:Rho}:∀ {es:List (AV×AV×Nat)} {l:List MapEntry},ERs ρ es l→l.length=es.length
 | [],l,h=>by simp only [ERs] at h; subst h; rfl
 | (k,v,b)::es,l,h=>by
  simp only [ERs] at h
  obtain ⟨e,r,rfl,_,_,_,h2⟩:=h
  simp [ERs.length h2]
theorem ERs.get {ρ:Rho}:∀ {es:List (AV×AV×Nat)} {l:List MapEntry},ERs ρ es l→∀ (i:Nat) (k v:AV) (b:Nat),es[i]?=some (k,v,b)→∃ r,l[i]?=some r∧VR ρ k r.key∧VR ρ v r.val∧r.born=b
 | [],l,h,i,k,v,b,hi=>by simp at hi
 | (k0,v0,b0)::es,l,h,i,k,v,b,hi=>by
  simp only [ERs] at h
  obtain ⟨e,r,rfl,h1,h2,h3,h4⟩:=h
  cases i with
  | zero=>simp at hi; obtain ⟨rfl,rfl,rfl⟩:=hi; exact ⟨e,rfl,h1,h2,h3⟩
  | succ i=>simp at hi; simpa using ERs.get h4 i k v b hi
theorem ERs.set {ρ:Rho}:∀ {es:List (AV×AV×Nat)} {l:List MapEntry} (i:Nat) {k v:AV} {rk rv:Value},ERs ρ es l→VR ρ k rk→VR ρ v rv→ERs ρ (setE es i k v) (l.modify i fun e=>{ e with key:=rk,val:=rv })
 | [],l,i,k,v,rk,rv,h,_,_=>by simp only [ERs] at h; subst h; cases i <;> simp [setE,ERs]
 | (k0,v0,b0)::es,l,i,k,v,rk,rv,h,hk,hv=>by
  simp only [ERs] at h
  obtain ⟨e,r,rfl,h1,h2,h3,h4⟩:=h
  cases i with
  | zero=>simp only [setE,List.modify_zero_cons,ERs]; exact ⟨_,_,rfl,hk,hv,h3,h4⟩
  | succ i=>simp only [setE,List.modify_succ_cons,ERs]; exact ⟨_,_,rfl,h1,h2,h3,ERs.set i h4 hk hv⟩
theorem ERs.snoc {ρ:Rho}:∀ {es:List (AV×AV×Nat)} {l:List MapEntry} {k v:AV} {b:Nat} {e:MapEntry},ERs ρ es l→VR ρ k e.key→VR ρ v e.val→e.born=b→ERs ρ (es++[(k,v,b)]) (l++[e])
 | [],l,k,v,b,e,h,hk,hv,hb=>by
  simp only [ERs] at h; subst h
  simp only [List.nil_append,ERs]
  exact ⟨e,[],rfl,hk,hv,hb,rfl⟩
 | (k0,v0,b0)::es,l,k,v,b,e,h,hk,hv,hb=>by
  simp only [ERs] at h
  obtain ⟨e0,r,rfl,h1,h2,h3,h4⟩:=h
  simp only [List.cons_append,ERs]
  exact ⟨_,_,rfl,h1,h2,h3,ERs.snoc h4 hk hv hb⟩
theorem findK_ok {k:KeyK} {x:AV} {rx:Value} {kt:TypeId} {d:TypeDesc} (hk:keyK P kt=some k) (hd:P.underlying kt=some d) (hx:VR ρ x rx):∀ {es:List (AV×AV×Nat)} {l:List MapEntry} {i:Nat} {q:Option (Nat×AV)},ERs ρ es l→findK k x es i=some q→
  match q with
  | none=>Instr.findNow d rx l i=some none
  | some (j,v)=>∃ e,i≤j∧l[j - i]?=some e∧VR ρ v e.val∧Instr.findNow d rx l i=some (some (j,e.val))∧Instr.sameBits 10000 e.key rx=true
 | [],l,i,q,h,he=>by
  simp only [ERs] at h; subst h
  simp only [findK,Option.some.injEq] at he; subst he
  simp [Instr.findNow]
 | (u,v,b)::es,l,i,q,h,he=>by
  simp only [ERs] at h
  obtain ⟨e,r,rfl,h1,h2,h3,h4⟩:=h
  unfold findK at he
  split at he
  ·rename_i heq
   simp only [Option.some.injEq] at he; subst he
   obtain ⟨d',hd',k1,k2,_⟩:=keyEq_ok hk heq hx h1
   rw [hd] at hd'; cases hd'
   exact ⟨e,Nat.le_refl _,by simp,h2,by simp [Instr.findNow,k1],k2 rfl⟩
  ·rename_i heq
   obtain ⟨d',hd',k1,k2,_⟩:=keyEq_ok hk heq hx h1
   rw [hd] at hd'; cases hd'
   have ih:=findK_ok hk hd hx h4 he
   cases q with
   | none=>simpa [Instr.findNow,k1] using ih
   | some jv=>
    obtain ⟨j,v'⟩:=jv
    obtain ⟨e',q1,q2,q3,q4,q5⟩:=ih
    refine ⟨e',by omega,?_,q3,by simpa [Instr.findNow,k1] using q4,q5⟩
    have:j - i=(j - (i+1))+1:=by omega
    rw [this]; simpa using q2
  ·cases he
theorem run_getObj_map (w:World) {r:Nat} {es:Array MapEntry} {c:Nat} (h:w.heap[r]?=some (.map es c)):(getObj r).run P w=.ok (.map es c) w:=by
 simp [getObj,Sem.run,h]
theorem run_setObj_map (w:World) {r:Nat} {es:Array MapEntry} {c:Nat} (h:w.heap[r]?=some (.map es c)) (o:Obj):(setObj r o).run P w=.ok () { w with heap:=w.heap.setIfInBounds r o }:=by
 simp [setObj,Sem.run,h]
theorem keyK_under {kt:TypeId} {k:KeyK} (h:keyK P kt=some k):∃ d,P.underlying kt=some d∧∀ (e:Bool) (rx:Value) (w:World),(Instr.checkKey e 10000 kt rx).run P w=.ok () w:=by
 unfold keyK at h
 split at h
 ·rename_i ik hu
  exact ⟨_,hu,fun e rx w=>run_ck_int 9999 e hu rx w⟩
 ·rename_i hu
  exact ⟨_,hu,fun e rx w=>run_ck_str 9999 e hu rx w⟩
 ·cases h
theorem run_findKey (w:World) {kt:TypeId} {d:TypeDesc} {rx:Value} {l:List MapEntry} {q:Option (Nat×Value)} (hd:P.underlying kt=some d) (h:Instr.findNow d rx l 0=some q):(Instr.findKey kt rx l).run P w=.ok q w:=by
 simp [Instr.findKey,run_underlying hd,h]
theorem op_mkmap {t:TypeId} {q:Option Operand} (ho:o.op=.makeMap t q) (hq:q=none∨((∃ ik n,q=some (.const (.int ik n)))∧∃ k e,P.underlying t=some (.map k e))) (hs:SR P ρ lam s a w)
  (he:opEv call (.xm .mkmap []) s=some (v,s')) (hk:After P ρ lam s a w v s' o.dst next):o.wp P a w next Q:=by
 obtain ⟨hl,m',he',rfl⟩:=xm_inv he
 clear he
 simp only [List.map_nil,xmEv] at he'
 split at he'
 ·cases he'
 ·rename_i hf
  simp only [Option.some.injEq,Prod.mk.injEq] at he'
  obtain ⟨rfl,rfl⟩:=he'
  have hbr:BR ρ ⟨w.heap.size,0,0,0⟩ (w.alloc (.map #[] 0)) (.map [] 0):=⟨#[],heap_alloc_new w _,rfl,fun i k v b h=>by simp at h⟩
  refine ok_step hs hk (r:=.map (some w.heap.size)) (w':=w.alloc (.map #[] 0)) ?_ (MStep.new hs.mem (by simpa using hf) hbr) ?_
  ·rcases hq with rfl | ⟨⟨ik,n,rfl⟩,kt,e,ht⟩
   ·simp [execOp,ho,Instr.makeMap]
   ·simp [execOp,ho,Instr.makeMap,run_underlying ht,Act.eval,asInt,asIntOf]
  ·simp only [VR]; exact ⟨⟨w.heap.size,0,0,0⟩,by rw [←hs.mem.len]; simp,rfl⟩
theorem map_at {B:Nat} {es:List (AV×AV×Nat)} {c:Nat} (hs:SR P ρ lam s a w) (hb:s.m.get B=some (.map es c)):∃ Z res,ρ[B]?=some Z∧w.heap[Z.blk]?=some (.map res c)∧ERs ρ es res.toList:=by
 obtain ⟨Z,hZ,res,h1,h2,h3⟩:=hs.mem.blk _ _ hb
 exact ⟨Z,res,hZ,h1,ERs.of_get (by simpa using h2) (fun i k v b hi=>by simpa using h3 i k v b hi)⟩
theorem map_br {ρ:Rho} {Z:At} {w:World} {es:List (AV×AV×Nat)} {c:Nat} {res:Array MapEntry} (h1:w.heap[Z.blk]?=some (.map res c)) (h2:ERs ρ es res.toList):BR ρ Z w (.map es c):=
 ⟨res,h1,by simpa using h2.length,fun i k v b hi=>by simpa using h2.get i k v b hi⟩
theorem op_mlk {t kt e:TypeId} {k:KeyK} {i':TypeInfo} {z:Value} {ok:Bool} {x i:Operand} {x' i'':Opd} (ho:o.op=.lookup t x i ok) (ht:P.underlying t=some (.map kt e)) (hkk:keyK P kt=some k) (hi':P.info? e=some i') (hz:i'.zero=some z)
  (hx:opd P x=some x') (hi:opd P i=some i'') (hs:SR P ρ lam s a w)
  (he:opEv call (.xm (.mlk k (cAV z) ok) [x',i'']) s=some (v,s')) (hk:After P ρ lam s a w v s' o.dst next):o.wp P a w next Q:=by
 obtain ⟨hl,m',he',rfl⟩:=xm_inv he
 clear he
 simp only [List.map_cons,List.map_nil,List.any_cons,Bool.or_eq_false_iff] at he' hl
 have h:=hs.opd hx
 have g:=(hs.opd hi).vr hl.2.1
 have hzv:=cAV_ok ρ z
 generalize s.opd x'=X at he' h
 generalize s.opd i''=I at he' g
 simp only [xmEv] at he'
 obtain ⟨d,hd,hck⟩:=keyK_under hkk
 have fin:∀ (V:Value) (q:Option (Nat×AV)) (es:List (AV×AV×Nat)) (res:Array MapEntry),ERs ρ es res.toList→findK k I es 0=some q→
   (∀ (nd:Option (Nat×Value)),Instr.findNow d (a.eval i) res.toList 0=some nd→(Instr.lookup t V (a.eval i) ok).run P w=.ok (if ok then .tuple #[(nd.map (·.2)).getD z,.bool nd.isSome] else (nd.map (·.2)).getD z) w)→
   a.eval x=V→v=(if ok then .tup [(q.map (·.2)).getD (cAV z),.bool q.isSome] else (q.map (·.2)).getD (cAV z))→m'=s.m→o.wp P a w next Q:=by
  intro V q es res hes hf hrun hV hv hm'
  subst hm'
  have hq:=findK_ok hkk hd g hes hf
  have key:∀ (nd:Option (Nat×Value)) (av:AV),Instr.findNow d (a.eval i) res.toList 0=some nd→VR ρ av ((nd.map (·.2)).getD z)→v=(if ok then .tup [av,.bool nd.isSome] else av)→o.wp P a w next Q:=by
   intro nd av h1 h2 h3
   subst h3
   have hr:=hrun nd h1
   refine ok_plain hs hk (r:=if ok then .tuple #[(nd.map (·.2)).getD z,.bool nd.isSome] else (nd.map (·.2)).getD z) (by simp [execOp,ho,hV,hr]) ?_
   cases ok
   ·simpa using h2
   ·simp only [if_true,VR]; exact ⟨_,rfl,by simp only [VRs]; exact ⟨_,_,rfl,h2,_,_,rfl,by simp [VR],rfl⟩⟩
  cases q with
  | none=>exact key none (cAV z) hq (by simpa using hzv) hv
  | some jv=>
   obtain ⟨j,u⟩:=jv
   obtain ⟨en,_,_,q3,q4,_⟩:=hq
   exact key (some (j,en.val)) u q4 (by simpa using q3) hv
 cases X <;> try simp only [reduceCtorEq] at he'
 case nilm=>
  simp only [VT,VR] at h
  simp only [Option.some.injEq,Prod.mk.injEq] at he'
  exact fin (.map none) none [] #[] (by simp [ERs]) (by simp [findK]) (fun nd hnd=>by
   simp only [Instr.findNow,Option.some.injEq] at hnd; subst hnd
   have hnd2:=run_findKey (P:=P) w (l:=[]) (q:=none) (rx:=a.eval i) hd (by simp [Instr.findNow])
   cases ok <;> simp [Instr.lookup,run_underlying ht,hck,hnd2,run_zero hi' hz]) h (by rw [←he'.1]; cases ok <;> simp) he'.2.symm
 case map B=>
  split at he'
  ·rename_i es c hb
   simp only [VT,VR] at h
   obtain ⟨Z,hZ,hr⟩:=h
   obtain ⟨Z',res,hZ',g1,g2⟩:=map_at hs hb
   rw [hZ] at hZ'; cases hZ'
   have hrun:∀ (nd:Option (Nat×Value)),Instr.findNow d (a.eval i) res.toList 0=some nd→(Instr.lookup t (.map (some Z.blk)) (a.eval i) ok).run P w=.ok (if ok then .tuple #[(nd.map (·.2)).getD z,.bool nd.isSome] else (nd.map (·.2)).getD z) w:=by
    intro nd hnd
    have hnd2:=run_findKey (P:=P) w hd hnd
    have hg:=run_getObj_map (P:=P) w g1
    cases nd with
    | none=>cases ok <;> simp [Instr.lookup,run_underlying ht,hck,hg,hnd2,run_zero hi' hz]
    | some jv=>obtain ⟨j,u⟩:=jv; cases ok <;> simp [Instr.lookup,run_underlying ht,hck,hg,hnd2]
   cases hf:findK k I es 0 with
   | none=>rw [hf] at he'; cases he'
   | some q=>
    rw [hf] at he'
    cases q with
    | none=>
     simp only [Option.some.injEq,Prod.mk.injEq] at he'
     exact fin _ none es res g2 hf hrun hr (by rw [←he'.1]; cases ok <;> simp) he'.2.symm
    | some jv=>
     simp only [Option.some.injEq,Prod.mk.injEq] at he'
     exact fin _ (some jv) es res g2 hf hrun hr (by rw [←he'.1]; cases ok <;> simp) he'.2.symm
  ·cases he'
theorem op_mup {t kt e:TypeId} {k:KeyK} {x i y:Operand} {x' i' y':Opd} (ho:o.op=.mapUpdate t x i y∨o.op=.insert t x i y) (ht:P.underlying t=some (.map kt e)) (hkk:keyK P kt=some k)
  (hx:opd P x=some x') (hi:opd P i=some i') (hy:opd P y=some y') (hs:SR P ρ lam s a w)
  (he:opEv call (.xm (.mup k) [x',i',y']) s=some (v,s')) (hk:After P ρ lam s a w v s' o.dst next):o.wp P a w next Q:=by
 obtain ⟨hl,m',he',rfl⟩:=xm_inv he
 clear he
 simp only [List.map_cons,List.map_nil,List.any_cons,Bool.or_eq_false_iff] at he' hl
 have h:=hs.opd hx
 have g:=(hs.opd hi).vr hl.2.1
 have u:=(hs.opd hy).vr hl.2.2.1
 generalize s.opd x'=X at he' h
 generalize s.opd i'=I at he' g
 generalize s.opd y'=Y at he' u
 obtain ⟨d,hd,hck⟩:=keyK_under hkk
 have exec:∀ V w',a.eval x=V→(Instr.mapUpdate t V (a.eval i) (a.eval y)).run P w=.ok () w'→(execOp a.eval o).run P w=.ok .skip w':=by
  intro V w' e1 e2
  rcases ho with ho | ho <;> simp [execOp,ho,e1,e2]
 cases X <;> try simp only [xmEv,reduceCtorEq] at he'
 case map B=>
  simp only [VT,VR] at h
  obtain ⟨Z,hZ,hr⟩:=h
  split at he'
  ·rename_i es c hb
   obtain ⟨Z',res,hZ',g1,g2⟩:=map_at hs hb
   rw [hZ] at hZ'; cases hZ'
   have hlt:Z.blk < w.heap.size:=(Array.getElem?_eq_some_iff.1 g1).1
   have hg:=run_getObj_map (P:=P) w g1
   have hst:=fun o=>run_setObj_map (P:=P) w g1 o
   split at he'
   ·rename_i j u0 hf
    simp only [Option.some.injEq,Prod.mk.injEq] at he'
    obtain ⟨rfl,rfl⟩:=he'
    obtain ⟨en,_,q2,q3,q4,q5⟩:=findK_ok hkk hd g g2 hf
    have hfk:=run_findKey (P:=P) w hd q4
    have hen:res[j]?=some en:=by simpa using q2
    have hrun:(Instr.mapUpdate t (.map (some Z.blk)) (a.eval i) (a.eval y)).run P w=.ok () { w with heap:=w.heap.setIfInBounds Z.blk (.map (res.modify j fun e=>{ e with key:=a.eval i,val:=a.eval y }) c) }:=by
     simp [Instr.mapUpdate,run_underlying ht,hck,hg,hfk,Instr.keyThatStays,hen,q5,hst]
    refine ok_skip hs hk (exec _ _ hr hrun) (MStep.set hs.mem hb rfl hZ rfl rfl rfl (by simp) (fun k' hk'=>setObj_ne w _ _ _ hk') (map_br (setObj_get w _ _ hlt) ?_))
    rw [Array.toList_modify]
    exact g2.set j g u
   ·rename_i hf
    split at he'
    ·simp only [Option.some.injEq,Prod.mk.injEq] at he'
     obtain ⟨rfl,rfl⟩:=he'
     have q4:=findK_ok hkk hd g g2 hf
     have hfk:=run_findKey (P:=P) w hd q4
     have hrun:(Instr.mapUpdate t (.map (some Z.blk)) (a.eval i) (a.eval y)).run P w=.ok () { w with heap:=w.heap.setIfInBounds Z.blk (.map (res.push { key:=a.eval i,val:=a.eval y,born:=c }) (c+1)) }:=by
      simp [Instr.mapUpdate,run_underlying ht,hck,hg,hfk,hst]
     refine ok_skip hs hk (exec _ _ hr hrun) (MStep.set hs.mem hb rfl hZ rfl rfl rfl (by simp) (fun k' hk'=>setObj_ne w _ _ _ hk') (map_br (setObj_get w _ _ hlt) ?_))
     rw [Array.toList_push]
     exact g2.snoc g u rfl
    ·cases he'
   ·cases he'
  ·cases he'
theorem op_lenM {t kt e:TypeId} {x:Operand} {x':Opd} (ho:o.op=.call { callee:=.builtin .len,args:=#[x],argTypes:=#[t] }) (ht:P.underlying t=some (.map kt e)) (hx:opd P x=some x') (hs:SR P ρ lam s a w)
  (he:opEv call (.xm .lenM [x']) s=some (v,s')) (hk:After P ρ lam s a w v s' o.dst next):o.wp P a w next Q:=by
 obtain ⟨hl,m',he',rfl⟩:=xm_inv he
 clear he
 simp only [List.map_cons,List.map_nil] at he'
 have h:=hs.opd hx
 generalize s.opd x'=X at he' h
 cases X <;> try simp only [xmEv,reduceCtorEq] at he'
 case nilm=>
  simp only [Option.some.injEq,Prod.mk.injEq] at he'
  obtain ⟨rfl,rfl⟩:=he'
  simp only [VT,VR] at h
  exact ok_plain hs hk (r:=.int .i64 0) (by simp [execOp,ho,h,resolve,invoke,builtin,Builtin.len_,run_underlying ht,goInt]) (by simp [VR])
 case map B=>
  split at he'
  ·rename_i es c hb
   simp only [Option.some.injEq,Prod.mk.injEq] at he'
   obtain ⟨rfl,rfl⟩:=he'
   simp only [VT,VR] at h
   obtain ⟨Z,hZ,hr⟩:=h
   obtain ⟨Z',res,hZ',g1,g2⟩:=map_at hs hb
   rw [hZ] at hZ'; cases hZ'
   have hlen:res.size=es.length:=by simpa using g2.length
   exact ok_plain hs hk (r:=.int .i64 res.size) (by simp [execOp,ho,hr,resolve,invoke,builtin,Builtin.len_,run_underlying ht,goInt,run_getObj_map w g1]) (by simp [VR,hlen])
  ·cases he'
end
end
end AG
