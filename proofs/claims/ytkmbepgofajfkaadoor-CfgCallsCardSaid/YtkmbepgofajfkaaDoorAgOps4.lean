/- The abstract machine, part 8: numbers, texts, tests, addresses, slices. -/
import Derived.Test.YtkmbepgofajfkaaDoorAgOps3
import Derived.Laws.StructEq
import Derived.ChangeKeysEq
namespace AG
noncomputable section
open Go Go.RowKit
section
variable {P:Program} {o:Oper} {a:Act} {w w':World} {next:Act→World→Prop} {Q:Exit→Act→World→Prop}
variable {ρ ρ':Rho} {lam:Nat→Nat} {s s':St} {v:AV} {r:Value} {call:Caller}
theorem run_eqGuard_int (op:BinOp) (t:TypeId) (x y:Operand) (k k':IntKind) (m n:Int):(eqGuard op t x y (.int k m) (.int k' n)).run P w=.ok () w:=by
 cases op <;> simp [eqGuard]
theorem run_eqGuard_str (op:BinOp) (t:TypeId) (x y:Operand) (m n:ByteArray):(eqGuard op t x y (.string m) (.string n)).run P w=.ok () w:=by
 cases op <;> simp [eqGuard]
def unAV:AV→Value
 | .int k n=>.int k n
 | .bool b=>.bool b
 | .str s=>.string s
 | _=>undef
theorem intBin_ok {op:BinOp} {t:TypeId} {k:IntKind} {m n:Int} {v:AV} (he:intBin op k m n=some v) (w:World):
  (binOp op t (.int k m) (.int k n)).run P w=.ok (unAV v) w∧VR ρ v (unAV v):=by
 cases op with
 | quo=>
  simp only [intBin] at he
  split at he
  ·cases he
  ·rename_i hz
   simp only [Option.some.injEq] at he; subst he
   exact ⟨by simp [binOp,Op.intDiv,hz,unAV],by simp [VR,unAV]⟩
 | rem=>
  simp only [intBin] at he
  split at he
  ·cases he
  ·rename_i hz
   simp only [Option.some.injEq] at he; subst he
   exact ⟨by simp [binOp,Op.intDiv,hz,unAV],by simp [VR,unAV]⟩
 | add | sub | mul | and | or | xor | andNot | eql | neq | lss | leq | gtr | geq=>
  simp only [intBin,Option.some.injEq] at he; subst he
  exact ⟨by simp [binOp,Op.intArith,Op.intBits,Op.intCmp,unAV],by simp [VR,unAV]⟩
 | _=>simp [intBin] at he
theorem strBin_ok {op:BinOp} {t:TypeId} {m n:ByteArray} {v:AV} (he:strBin op m n=some v) (w:World):
  (binOp op t (.string m) (.string n)).run P w=.ok (unAV v) w∧VR ρ v (unAV v):=by
 cases op with
 | add=>
  simp only [strBin] at he
  split at he
  ·cases he
  ·rename_i hz
   simp only [Option.some.injEq] at he; subst he
   exact ⟨by simp only [binOp,Op.stringOp,hz,if_false,Sem.run_pure,unAV],by simp [VR,unAV]⟩
 | eql | neq | lss | leq | gtr | geq=>
  simp only [strBin,Option.some.injEq] at he; subst he
  exact ⟨by simp [binOp,Op.stringOp,unAV],by simp [VR,unAV]⟩
 | _=>simp [strBin] at he
theorem bin_ok {op:BinOp} {t:TypeId} {x y:AV} {rx ry:Value} {v:AV} (hx:VT lam ρ x rx) (hy:VT lam ρ y ry) (he:binEv op x y=some v) (w:World) (X Y:Operand):
  ∃ r,(eqGuard op t X Y rx ry).run P w=.ok () w∧(binOp op t rx ry).run P w=.ok r w∧VR ρ v r:=by
 unfold binEv at he
 split at he
 ·rename_i k m k' n
  simp only [VT,VR] at hx hy
  subst hx; subst hy
  refine ⟨unAV v,run_eqGuard_int ..,?_⟩
  split at he
  ·split at he
   ·cases he
   ·rename_i hn; cases he
    exact ⟨by simp [binOp,Op.shift,hn,unAV],by simp [VR,unAV]⟩
  ·split at he
   ·cases he
   ·rename_i hn; cases he
    exact ⟨by simp [binOp,Op.shift,hn,unAV],by simp [VR,unAV]⟩
  ·split at he
   ·rename_i hk
    subst hk
    exact intBin_ok he w
   ·cases he
 ·simp only [VT,VR] at hx hy
  subst hx; subst hy
  exact ⟨unAV v,run_eqGuard_str ..,strBin_ok he w⟩
 ·cases he
theorem op_bin {op:BinOp} {t t':TypeId} {x y:Operand} {x' y':Opd} (ho:o.op=.binOp op t x y t') (hx:opd P x=some x') (hy:opd P y=some y') (hs:SR P ρ lam s a w)
  (he:opEv call (.bin op x' y') s=some (v,s')) (hk:After P ρ lam s a w v s' o.dst next):o.wp P a w next Q:=by
 simp only [opEv,Option.map_eq_some_iff,Prod.mk.injEq] at he
 obtain ⟨u,hu,rfl,rfl⟩:=he
 obtain ⟨r,h1,h2,h3⟩:=bin_ok (P:=P) (t:=t) (hs.opd hx) (hs.opd hy) hu w x y
 exact ok_plain hs hk (by simp [execOp,ho,h1,h2]) h3
def leafTy (P:Program) (t:TypeId):Nat→Prop
 | 0=>∃ k,P.underlying t=some (.int k)
 | 1=>P.underlying t=some .bool
 | 2=>P.underlying t=some .string
 | _=>False
theorem leaf_ok {x y:AV} {rx ry:Value} {b:Bool} {t:TypeId} {c:Nat} (d:Nat) (hx:VR ρ x rx) (hy:VR ρ y ry) (he:leafEq c x y=some b) (ht:leafTy P t c) (w:World):
  (Op.equalIn (d+1) t rx ry).run P w=.ok b w∧rx.oneCell'=true∧ry.oneCell'=true:=by
 unfold leafEq at he
 split at he
 ·simp only [VR] at hx hy; subst hx; subst hy
  split at he
  ·rename_i hk; subst hk; cases he
   obtain ⟨k,h⟩:=ht
   exact ⟨run_equalIn_int w d t _ k _ _ h,rfl,rfl⟩
  ·cases he
 ·simp only [VR] at hx hy; subst hx; subst hy
  cases he
  exact ⟨run_equalIn_bool' w d t _ _ ht,rfl,rfl⟩
 ·simp only [VR] at hx hy; subst hx; subst hy
  cases he
  exact ⟨by rw [run_equalIn_string w d t _ _ ht,beq_toListBytes],rfl,rfl⟩
 ·cases he
theorem leafTy_agg {t:TypeId} {c:Nat} (h:leafTy P t c):aggq P t=some false:=by
 unfold leafTy at h
 unfold aggq
 split at h
 ·obtain ⟨k,h⟩:=h; simp [h]
 ·simp [h]
 ·simp [h]
 ·exact h.elim
theorem run_part {t:TypeId} {cs:Array Value} {off:Nat} {u:Value} (hg:aggq P t=some false) (hc:cs[off]?=some u) (w:World):(part t cs off).run P w=.ok u w:=by
 simp [part,run_isAgg hg,hc]
theorem leaves_ok (d:Nat):∀ {fs:List Field} {offs:List (Nat×Nat)} {xs ys:List AV} {rx ry:Array Value} {b:Bool},flatOffs P fs=some offs→VRs ρ xs rx.toList→VRs ρ ys ry.toList→
  leavesEq xs ys offs=some b→∀ w:World,(Op.eqFields (d+1) rx ry fs).run P w=.ok b w
 | [],offs,xs,ys,rx,ry,b,ho,hx,hy,he,w=>by
  simp only [flatOffs,Option.some.injEq] at ho; subst ho
  simp only [leavesEq,Option.some.injEq] at he; subst he
  simp [Op.eqFields]
 | f::r,offs,xs,ys,rx,ry,b,ho,hx,hy,he,w=>by
  simp only [flatOffs] at ho
  split at ho
  ·cases ho
  ·rename_i hname
   have key:∀ c l,leafTy P f.type c→flatOffs P r=some l→leavesEq xs ys ((f.offset,c)::l)=some b→(Op.eqFields (d+1) rx ry (f::r)).run P w=.ok b w:=by
    intro c l hty hl he
    simp only [leavesEq] at he
    split at he
    ·rename_i u v hu hv
     obtain ⟨ru,hru,hvu⟩:=hx.get hu
     obtain ⟨rv,hrv,hvv⟩:=hy.get hv
     have e1:rx[f.offset]?=some ru:=by simpa using hru
     have e2:ry[f.offset]?=some rv:=by simpa using hrv
     have hp1:=run_part (leafTy_agg hty) e1
     have hp2:=run_part (leafTy_agg hty) e2
     split at he
     ·rename_i hleaf
      have h0:=fun w=>(leaf_ok (P:=P) d hvu hvv hleaf hty w).1
      simp only [Op.eqFields,if_pos hname,Sem.run_bind,hp1,hp2,h0,Result.andThen_ok,Bool.not_true,Bool.false_eq_true,if_false]
      exact leaves_ok d hl hx hy he w
     ·rename_i hleaf
      cases he
      have h0:=fun w=>(leaf_ok (P:=P) d hvu hvv hleaf hty w).1
      simp only [Op.eqFields,if_pos hname,Sem.run_bind,hp1,hp2,h0,Result.andThen_ok,Bool.not_false,if_true,Sem.run_pure]
     ·cases he
    ·cases he
   split at ho
   ·rename_i k l hk hl; cases ho; exact key 0 l ⟨k,hk⟩ hl he
   ·rename_i l hk hl; cases ho; exact key 1 l hk hl he
   ·rename_i l hk hl; cases ho; exact key 2 l hk hl he
   ·cases ho
theorem items_ok (d k:Nat) {e:TypeId} (hty:leafTy P e 0):∀ (is:List Nat) {xs ys:List AV} {rx ry:Array Value} {b:Bool},VRs ρ xs rx.toList→VRs ρ ys ry.toList→
  leavesEq xs ys (is.map fun i=>(i*k,0))=some b→∀ w:World,(Op.eqItems (d+1) e k rx ry is).run P w=.ok b w
 | [],xs,ys,rx,ry,b,hx,hy,he,w=>by
  simp only [List.map_nil,leavesEq,Option.some.injEq] at he; subst he
  simp [Op.eqItems]
 | i::r,xs,ys,rx,ry,b,hx,hy,he,w=>by
  simp only [List.map_cons,leavesEq] at he
  split at he
  ·rename_i u v hu hv
   obtain ⟨ru,hru,hvu⟩:=hx.get hu
   obtain ⟨rv,hrv,hvv⟩:=hy.get hv
   have e1:rx[i*k]?=some ru:=by simpa using hru
   have e2:ry[i*k]?=some rv:=by simpa using hrv
   have hp1:=run_part (leafTy_agg hty) e1
   have hp2:=run_part (leafTy_agg hty) e2
   split at he
   ·rename_i hleaf
    have h0:=fun w=>(leaf_ok (P:=P) d hvu hvv hleaf hty w).1
    simp only [Op.eqItems,Sem.run_bind,hp1,hp2,h0,Result.andThen_ok,Bool.not_true,Bool.false_eq_true,if_false]
    exact items_ok d k hty r hx hy he w
   ·rename_i hleaf
    cases he
    have h0:=fun w=>(leaf_ok (P:=P) d hvu hvv hleaf hty w).1
    simp only [Op.eqItems,Sem.run_bind,hp1,hp2,h0,Result.andThen_ok,Bool.not_false,if_true,Sem.run_pure]
   ·cases he
  ·cases he
theorem run_equal_bool (t:TypeId) (a b:Bool) (h:P.underlying t=some .bool):(Op.equal t (.bool a) (.bool b)).run P w=.ok (a == b) w:=by
 simp [Op.equal,Op.maxDepth,run_equalIn_bool' w 9999 t a b h]
theorem run_eqd_sl1 {t e:TypeId} (d:Nat) (ht:P.underlying t=some (.slice e)) (w:World) {n c n' c':Nat}:(Op.equalIn (d+1) t (.slice none n c) (.slice none n' c')).run P w=.ok true w:=by simp [Op.equalIn,run_underlying ht]
theorem run_eqd_sl2 {t e:TypeId} (d:Nat) (ht:P.underlying t=some (.slice e)) (w:World) {n c n' c':Nat} {x:Addr}:(Op.equalIn (d+1) t (.slice none n c) (.slice (some x) n' c')).run P w=.ok false w:=by simp [Op.equalIn,run_underlying ht]
theorem run_eqd_sl3 {t e:TypeId} (d:Nat) (ht:P.underlying t=some (.slice e)) (w:World) {n c n' c':Nat} {x:Addr}:(Op.equalIn (d+1) t (.slice (some x) n c) (.slice none n' c')).run P w=.ok false w:=by simp [Op.equalIn,run_underlying ht]
theorem run_eqd_m1 {t e k:TypeId} (d:Nat) (ht:P.underlying t=some (.map k e)) (w:World):(Op.equalIn (d+1) t (.map none) (.map none)).run P w=.ok true w:=by simp [Op.equalIn,run_underlying ht]
theorem run_eqd_m2 {t e k:TypeId} (d:Nat) (ht:P.underlying t=some (.map k e)) (w:World) {x:Nat}:(Op.equalIn (d+1) t (.map none) (.map (some x))).run P w=.ok false w:=by simp [Op.equalIn,run_underlying ht]
theorem run_eqd_m3 {t e k:TypeId} (d:Nat) (ht:P.underlying t=some (.map k e)) (w:World) {x:Nat}:(Op.equalIn (d+1) t (.map (some x)) (.map none)).run P w=.ok false w:=by simp [Op.equalIn,run_underlying ht]
theorem run_eqd_f1 {t:TypeId} {a b:Array TypeId} {c:Bool} (d:Nat) (ht:P.underlying t=some (.func a b c)) (w:World):(Op.equalIn (d+1) t .nilFunc .nilFunc).run P w=.ok true w:=by simp [Op.equalIn,run_underlying ht]
theorem run_eqd_f2 {t:TypeId} {a b:Array TypeId} {c:Bool} (d:Nat) (ht:P.underlying t=some (.func a b c)) (w:World) {f:Fn} {x y:Array Value}:(Op.equalIn (d+1) t .nilFunc (.func f x y)).run P w=.ok false w:=by simp [Op.equalIn,run_underlying ht]
theorem run_eqd_f3 {t:TypeId} {a b:Array TypeId} {c:Bool} (d:Nat) (ht:P.underlying t=some (.func a b c)) (w:World) {f:Fn} {x y:Array Value}:(Op.equalIn (d+1) t (.func f x y) .nilFunc).run P w=.ok false w:=by simp [Op.equalIn,run_underlying ht]
theorem run_eq_sl1 {t e:TypeId} (ht:P.underlying t=some (.slice e)) (w:World) {n c n' c':Nat}:(Op.equal t (.slice none n c) (.slice none n' c')).run P w=.ok true w:=run_eqd_sl1 9999 ht w
theorem run_eq_sl2 {t e:TypeId} (ht:P.underlying t=some (.slice e)) (w:World) {n c n' c':Nat} {x:Addr}:(Op.equal t (.slice none n c) (.slice (some x) n' c')).run P w=.ok false w:=run_eqd_sl2 9999 ht w
theorem run_eq_sl3 {t e:TypeId} (ht:P.underlying t=some (.slice e)) (w:World) {n c n' c':Nat} {x:Addr}:(Op.equal t (.slice (some x) n c) (.slice none n' c')).run P w=.ok false w:=run_eqd_sl3 9999 ht w
theorem run_eq_m1 {t e k:TypeId} (ht:P.underlying t=some (.map k e)) (w:World):(Op.equal t (.map none) (.map none)).run P w=.ok true w:=run_eqd_m1 9999 ht w
theorem run_eq_m2 {t e k:TypeId} (ht:P.underlying t=some (.map k e)) (w:World) {x:Nat}:(Op.equal t (.map none) (.map (some x))).run P w=.ok false w:=run_eqd_m2 9999 ht w
theorem run_eq_m3 {t e k:TypeId} (ht:P.underlying t=some (.map k e)) (w:World) {x:Nat}:(Op.equal t (.map (some x)) (.map none)).run P w=.ok false w:=run_eqd_m3 9999 ht w
theorem run_eq_f1 {t:TypeId} {a b:Array TypeId} {c:Bool} (ht:P.underlying t=some (.func a b c)) (w:World):(Op.equal t .nilFunc .nilFunc).run P w=.ok true w:=run_eqd_f1 9999 ht w
theorem run_eq_f2 {t:TypeId} {a b:Array TypeId} {c:Bool} (ht:P.underlying t=some (.func a b c)) (w:World) {f:Fn} {x y:Array Value}:(Op.equal t .nilFunc (.func f x y)).run P w=.ok false w:=run_eqd_f2 9999 ht w
theorem run_eq_f3 {t:TypeId} {a b:Array TypeId} {c:Bool} (ht:P.underlying t=some (.func a b c)) (w:World) {f:Fn} {x y:Array Value}:(Op.equal t (.func f x y) .nilFunc).run P w=.ok false w:=run_eqd_f3 9999 ht w
theorem run_bin_eq {t:TypeId} {x y:Value} {b:Bool} (neg:Bool) (hx:(∃ a n c,x=.slice a n c)∨(∃ r,x=.map r)∨x=.nilFunc∨∃ f a c,x=.func f a c)
  (h:(Op.equal t x y).run P w=.ok b w):(binOp (if neg then .neq else .eql) t x y).run P w=.ok (.bool (if neg then !b else b)) w:=by
 rcases hx with ⟨a,n,c,rfl⟩ | ⟨r,rfl⟩ | rfl | ⟨f,a,c,rfl⟩ <;> cases neg <;> simp [binOp,h]
theorem run_eqd_i1 {t:TypeId} {ms:Array (String×TypeId)} (d:Nat) (ht:P.underlying t=some (.interface ms)) (w:World):(Op.equalIn (d+1) t .nilIface .nilIface).run P w=.ok true w:=by simp [Op.equalIn,run_underlying ht]
theorem run_eqd_i2 {t:TypeId} {ms:Array (String×TypeId)} (d:Nat) (ht:P.underlying t=some (.interface ms)) (w:World) {u:TypeId} {x:Value}:(Op.equalIn (d+1) t .nilIface (.iface u x)).run P w=.ok false w:=by simp [Op.equalIn,run_underlying ht]
theorem run_eqd_i3 {t:TypeId} {ms:Array (String×TypeId)} (d:Nat) (ht:P.underlying t=some (.interface ms)) (w:World) {u:TypeId} {x:Value}:(Op.equalIn (d+1) t (.iface u x) .nilIface).run P w=.ok false w:=by simp [Op.equalIn,run_underlying ht]
theorem run_eqd_p1 {t e:TypeId} (d:Nat) (ht:P.underlying t=some (.pointer e)) (w:World):(Op.equalIn (d+1) t (.pointer none) (.pointer none)).run P w=.ok true w:=by simp [Op.equalIn,run_underlying ht]
theorem run_eqd_p2 {t e:TypeId} (d:Nat) (ht:P.underlying t=some (.pointer e)) (w:World) {x:Addr}:(Op.equalIn (d+1) t (.pointer none) (.pointer (some x))).run P w=.ok false w:=by simp [Op.equalIn,run_underlying ht]
theorem run_eqd_p3 {t e:TypeId} (d:Nat) (ht:P.underlying t=some (.pointer e)) (w:World) {x:Addr}:(Op.equalIn (d+1) t (.pointer (some x)) (.pointer none)).run P w=.ok false w:=by simp [Op.equalIn,run_underlying ht]
theorem run_eqd_p4 {t e:TypeId} {i:TypeInfo} (d:Nat) (ht:P.underlying t=some (.pointer e)) (hi:P.info? e=some i) (hz:¬i.size=0) (w:World) {B o1 o2:Nat}:(Op.equalIn (d+1) t (.pointer (some ⟨B,o1,none⟩)) (.pointer (some ⟨B,o2,none⟩))).run P w=.ok (o1 == o2) w:=by
 have e1:((⟨B,o1,none⟩:Addr) == ⟨B,o2,none⟩)=(o1 == o2):=by
  rw [Bool.eq_iff_iff]; simp
 simp [Op.equalIn,run_underlying ht,run_sizeOf hi,hz,sameAddr,e1]
theorem run_bin_eqI {t:TypeId} {x y:Value} {b:Bool} (neg:Bool) (hx:(∃ r,x=.pointer r)∨x=.nilIface∨∃ u v,x=.iface u v) (hy:(∃ r,y=.pointer r)∨y=.nilIface∨∃ u v,y=.iface u v)
  (h:(Op.equal t x y).run P w=.ok b w):(binOp (if neg then .neq else .eql) t x y).run P w=.ok (.bool (if neg then !b else b)) w:=by
 rcases hx with ⟨r,rfl⟩ | rfl | ⟨u,v,rfl⟩ <;> rcases hy with ⟨r',rfl⟩ | rfl | ⟨u',v',rfl⟩ <;> cases neg <;> simp [binOp,h]
theorem eq_ok {t:TypeId} {k:EqK} {x y:AV} {rx ry:Value} {b:Bool} {X Y:Operand} (hq:eqKind P t X Y=some k) (hx:VT lam ρ x rx) (hy:VT lam ρ y ry) (he:eqEv k x y=some b) (w:World) (neg:Bool):
  (eqGuard (if neg then .neq else .eql) t X Y rx ry).run P w=.ok () w∧(binOp (if neg then .neq else .eql) t rx ry).run P w=.ok (.bool (if neg then !b else b)) w:=by
 unfold eqKind at hq
 split at hq
 ·rename_i ms ht
  cases hq
  unfold eqEv at he
  split at he <;> try (first | (cases he; done) | (exfalso; simp_all; done))
  ·rename_i hc
   simp only [EqK.nilI.injEq] at hc; subst hc
   split at he
   ·rename_i hk
    cases he
    simp only [VT,VR] at hx hy; subst hx; subst hy
    refine ⟨?_,run_bin_eqI neg (.inr (.inl rfl)) (.inr (.inl rfl)) (run_eqd_i1 9999 ht w)⟩
    revert hk
    cases neg <;> cases X <;> cases Y <;> simp [isK,eqGuard]
   ·cases he
  ·simp only [VT,VR] at hx hy; subst hx; obtain ⟨_,rfl,_⟩:=hy; cases he
   exact ⟨by cases neg <;> simp [eqGuard],run_bin_eqI neg (.inr (.inl rfl)) (.inr (.inr ⟨_,_,rfl⟩)) (run_eqd_i2 9999 ht w)⟩
  ·simp only [VT,VR] at hx hy; subst hy; obtain ⟨_,rfl,_⟩:=hx; cases he
   exact ⟨by cases neg <;> simp [eqGuard],run_bin_eqI neg (.inr (.inr ⟨_,_,rfl⟩)) (.inr (.inl rfl)) (run_eqd_i3 9999 ht w)⟩
 ·rename_i e ht
  split at hq
  ·rename_i i hi
   split at hq
   ·cases hq
   ·rename_i hz
    cases hq
    unfold eqEv at he
    split at he <;> try (first | (cases he; done) | (exfalso; simp_all; done))
    ·simp only [VT,VR] at hx hy; subst hx; subst hy; cases he
     exact ⟨by cases neg <;> simp [eqGuard],run_bin_eqI neg (.inl ⟨_,rfl⟩) (.inl ⟨_,rfl⟩) (run_eqd_p1 9999 ht w)⟩
    ·simp only [VT,VR] at hx hy; subst hx; obtain ⟨_,_,rfl⟩:=hy; cases he
     exact ⟨by cases neg <;> simp [eqGuard],run_bin_eqI neg (.inl ⟨_,rfl⟩) (.inl ⟨_,rfl⟩) (run_eqd_p2 9999 ht w)⟩
    ·simp only [VT,VR] at hx hy; subst hy; obtain ⟨_,_,rfl⟩:=hx; cases he
     exact ⟨by cases neg <;> simp [eqGuard],run_bin_eqI neg (.inl ⟨_,rfl⟩) (.inl ⟨_,rfl⟩) (run_eqd_p3 9999 ht w)⟩
    ·simp only [VT,VR] at hx hy; subst hx; subst hy; cases he
     exact ⟨by cases neg <;> simp [eqGuard],run_bin_eqI neg (.inl ⟨_,rfl⟩) (.inl ⟨_,rfl⟩) (run_eqd_p2 9999 ht w)⟩
    ·simp only [VT,VR] at hx hy; subst hy; subst hx; cases he
     exact ⟨by cases neg <;> simp [eqGuard],run_bin_eqI neg (.inl ⟨_,rfl⟩) (.inl ⟨_,rfl⟩) (run_eqd_p3 9999 ht w)⟩
    ·rename_i b1 o1 b2 o2 _
     split at he
     ·rename_i hb
      subst hb
      cases he
      simp only [VT,VR] at hx hy
      obtain ⟨x1,hx1,rfl⟩:=hx
      obtain ⟨x2,hx2,rfl⟩:=hy
      rw [hx1] at hx2; cases hx2
      refine ⟨by cases neg <;> simp [eqGuard],run_bin_eqI neg (.inl ⟨_,rfl⟩) (.inl ⟨_,rfl⟩) ?_⟩
      have:=run_eqd_p4 (P:=P) 9999 ht hi hz w (B:=x1.blk) (o1:=x1.off+o1) (o2:=x1.off+o2)
      rw [show ((x1.off+o1) == (x1.off+o2))=(o1 == o2) by rw [Bool.eq_iff_iff]; simp] at this
      exact this
     ·cases he
  ·cases hq
 ·rename_i ht
  cases hq
  unfold eqEv at he
  split at he <;> try (first | (cases he; done) | (exfalso; simp_all; done))
  simp only [VT,VR] at hx hy; subst hx; subst hy; cases he
  cases neg <;> simp [eqGuard,binOp,run_equal_bool,ht]
 ·rename_i e ht
  cases hq
  unfold eqEv at he
  split at he <;> try (first | (cases he; done) | (exfalso; simp_all; done))
  ·simp only [VT,VR] at hx hy; cases he; subst hx; subst hy
   exact ⟨by cases neg <;> simp [eqGuard],run_bin_eq neg (.inl ⟨_,_,_,rfl⟩) (run_eq_sl1 ht w)⟩
  ·simp only [VT,VR] at hx hy; cases he; subst hx; obtain ⟨_,_,_,rfl,_⟩:=hy
   exact ⟨by cases neg <;> simp [eqGuard],run_bin_eq neg (.inl ⟨_,_,_,rfl⟩) (run_eq_sl2 ht w)⟩
  ·simp only [VT,VR] at hx hy; cases he; subst hy; obtain ⟨_,_,_,rfl,_⟩:=hx
   exact ⟨by cases neg <;> simp [eqGuard],run_bin_eq neg (.inl ⟨_,_,_,rfl⟩) (run_eq_sl3 ht w)⟩
 ·rename_i k e ht
  cases hq
  unfold eqEv at he
  split at he <;> try (first | (cases he; done) | (exfalso; simp_all; done))
  ·simp only [VT,VR] at hx hy; cases he; subst hx; subst hy
   exact ⟨by cases neg <;> simp [eqGuard],run_bin_eq neg (.inr (.inl ⟨_,rfl⟩)) (run_eq_m1 ht w)⟩
  ·simp only [VT,VR] at hx hy; cases he; subst hx; obtain ⟨_,_,rfl⟩:=hy
   exact ⟨by cases neg <;> simp [eqGuard],run_bin_eq neg (.inr (.inl ⟨_,rfl⟩)) (run_eq_m2 ht w)⟩
  ·simp only [VT,VR] at hx hy; cases he; subst hy; obtain ⟨_,_,rfl⟩:=hx
   exact ⟨by cases neg <;> simp [eqGuard],run_bin_eq neg (.inr (.inl ⟨_,rfl⟩)) (run_eq_m3 ht w)⟩
 ·rename_i a b c ht
  cases hq
  unfold eqEv at he
  split at he <;> try (first | (cases he; done) | (exfalso; simp_all; done))
  ·simp only [VT,VR] at hx hy; cases he; subst hx; subst hy
   exact ⟨by cases neg <;> simp [eqGuard],run_bin_eq neg (.inr (.inr (.inl rfl))) (run_eq_f1 ht w)⟩
  ·simp only [VT,VR] at hx hy; cases he; subst hx; obtain ⟨_,rfl,_⟩:=hy
   exact ⟨by cases neg <;> simp [eqGuard],run_bin_eq neg (.inr (.inr (.inl rfl))) (run_eq_f2 ht w)⟩
  ·simp only [VT,VR] at hx hy; cases he; subst hy; obtain ⟨_,rfl,_⟩:=hx
   exact ⟨by cases neg <;> simp [eqGuard],run_bin_eq neg (.inr (.inr (.inr ⟨_,_,_,rfl⟩))) (run_eq_f3 ht w)⟩
 ·rename_i fs ht
  split at hq
  ·cases hq
  ·rename_i hno
   simp only [Bool.or_eq_true,not_or,Bool.not_eq_true] at hno
   simp only [Option.map_eq_some_iff] at hq
   obtain ⟨offs,hoffs,rfl⟩:=hq
   unfold eqEv at he
   split at he <;> try (first | (cases he; done) | (exfalso; simp_all; done))
   rename_i heq
   cases heq
   simp only [VT,VR] at hx hy
   obtain ⟨rx,rfl,hrx⟩:=hx
   obtain ⟨ry,rfl,hry⟩:=hy
   have hf:P.fieldsOf t=fs:=by simp [Program.fieldsOf,ht]
   have ht':P.underlying t=some (.struct (P.fieldsOf t)):=by rw [hf]; exact ht
   have hl:=leaves_ok (P:=P) 9998 hoffs hrx hry he w
   have h0:(Op.equalIn 10000 t (.agg rx) (.agg ry)).run P w=.ok b w:=by
    rw [run_equalIn_struct w 9999 t rx ry ht' hno.1,hf]; exact hl
   refine ⟨run_eqGuard_agg w _ t X Y rx ry hno.2,?_⟩
   cases neg
   ·simp only [Bool.false_eq_true,if_false,run_eql_struct,h0,Result.andThen_ok]
   ·simp only [if_true,run_neq_struct,h0,Result.andThen_ok]
 ·rename_i n e ht
  split at hq
  ·rename_i k i hk hi
   split at hq
   ·cases hq
   ·rename_i hno
    simp only [Option.some.injEq] at hq
    subst hq
    unfold eqEv at he
    split at he <;> try (first | (cases he; done) | (exfalso; simp_all; done))
    rename_i heq
    cases heq
    simp only [VT,VR] at hx hy
    obtain ⟨rx,rfl,hrx⟩:=hx
    obtain ⟨ry,rfl,hry⟩:=hy
    have h0:(Op.equalIn 10000 t (.agg rx) (.agg ry)).run P w=.ok b w:=by
     rw [run_equalIn_array w 9999 rx ry ht hi]
     exact items_ok 9998 (P.cellsOf e) ⟨k,hk⟩ _ hrx hry he w
    refine ⟨run_eqGuard_agg w _ t X Y rx ry (by simpa using hno),?_⟩
    cases neg
    ·simp only [Bool.false_eq_true,if_false,run_eql_struct,h0,Result.andThen_ok]
    ·simp only [if_true,run_neq_struct,h0,Result.andThen_ok]
  ·cases hq
 ·cases hq
theorem op_eq {t t':TypeId} {k:EqK} {x y:Operand} {x' y':Opd} (neg:Bool) (ho:o.op=.binOp (if neg then .neq else .eql) t x y t') (hq:eqKind P t x y=some k) (hx:opd P x=some x') (hy:opd P y=some y') (hs:SR P ρ lam s a w)
  (he:opEv call (.eq neg k x' y') s=some (v,s')) (hk:After P ρ lam s a w v s' o.dst next):o.wp P a w next Q:=by
 simp only [opEv,Option.map_eq_some_iff,Prod.mk.injEq] at he
 obtain ⟨u,hu,rfl,rfl⟩:=he
 obtain ⟨h1,h2⟩:=eq_ok (P:=P) hq (hs.opd hx) (hs.opd hy) hu w neg
 exact ok_plain hs hk (r:=.bool (if neg then !u else u)) (by simp only [execOp,ho,Sem.run_bind,h1,h2,Result.andThen_ok,Sem.run_pure]) (by simp only [VR])
theorem op_un {op:UnOp} {t:TypeId} {x:Operand} {x':Opd} (ho:o.op=.unOp op t x) (hx:opd P x=some x') (hs:SR P ρ lam s a w)
  (he:opEv call (.un op x') s=some (v,s')) (hk:After P ρ lam s a w v s' o.dst next):o.wp P a w next Q:=by
 simp only [opEv,Option.map_eq_some_iff,Prod.mk.injEq] at he
 obtain ⟨u,hu,rfl,rfl⟩:=he
 have h:=hs.opd hx
 unfold unEv at hu
 split at hu
 ·rename_i k n hx'
  rw [hx'] at h; simp only [VT,VR] at h
  simp only [intBin,Option.some.injEq] at hu; subst hu
  exact ok_plain hs hk (r:=unAV (.int k (k.wrap (0 - n)))) (by simp [execOp,ho,h,Op.unary,Op.intArith,unAV]) (by simp [VR,unAV])
 ·rename_i k n hx'
  rw [hx'] at h; simp only [VT,VR] at h
  simp only [intBin,Option.some.injEq] at hu; subst hu
  exact ok_plain hs hk (r:=.int k (k.wrap ↑(BitVec.ofInt k.bits (if k.signed=true then -1 else k.max) ^^^ BitVec.ofInt k.bits n).toNat)) (by simp only [execOp,ho,h,Op.unary,Op.intBits]; rfl) (by simp only [VR])
 ·rename_i b hx'
  rw [hx'] at h; simp only [VT,VR] at h
  simp only [Option.some.injEq] at hu; subst hu
  exact ok_plain hs hk (r:=.bool (!b)) (by simp [execOp,ho,h,Op.unary]) (by simp [VR])
 ·cases hu
theorem op_conv {src dst:TypeId} {j k:IntKind} {x:Operand} {x':Opd} (ho:o.op=.convert src dst x) (h1:P.underlying src=some (.int j)) (h2:P.underlying dst=some (.int k)) (hx:opd P x=some x') (hs:SR P ρ lam s a w)
  (he:opEv call (.conv k x') s=some (v,s')) (hk:After P ρ lam s a w v s' o.dst next):o.wp P a w next Q:=by
 simp only [opEv] at he
 split at he
 ·rename_i k' n hx'
  simp only [Option.some.injEq,Prod.mk.injEq] at he
  obtain ⟨rfl,rfl⟩:=he
  have h:=hs.opd hx
  rw [hx'] at h; simp only [VT,VR] at h
  exact ok_plain hs hk (r:=.int k (k.wrap n)) (by simp [execOp,ho,h,convert,run_underlying h1,run_underlying h2,Conv.intToInt]) (by simp [VR])
 ·cases he
theorem op_nilck {x:Operand} {x':Opd} (ho:o.op=.nilCheck x) (hx:opd P x=some x') (hs:SR P ρ lam s a w)
  (he:opEv call (.nilck x') s=some (v,s')) (hk:After P ρ lam s a w v s' o.dst next):o.wp P a w next Q:=by
 have h:=hs.opd hx
 have hl:=hs.opd_live hx
 simp only [opEv] at he
 generalize s.opd x'=y at he h hl
 have key:∀ r,a.eval x=r→(execOp a.eval o).run P w=.ok (.value r) w→VT lam ρ y r→v=y→s=s'→o.wp P a w next Q:=by
  intro r _ hr hv e1 e2
  subst e1; subst e2
  exact ok_pure hs hk hr hv hl
 cases y <;> simp only [Option.some.injEq,Prod.mk.injEq,reduceCtorEq] at he
 case loc t o=>
  simp only [VT] at h
  exact key _ h (by simp [execOp,ho,h]) (by simp [VT]) he.1.symm he.2
 all_goals
  have h':=h
  simp only [VT,VR] at h'
  first
   | exact key _ h' (by simp [execOp,ho,h']) (h'▸h) he.1.symm he.2
   | (obtain ⟨_,_,h'⟩:=h'; exact key _ h' (by simp [execOp,ho,h']) (h'▸h) he.1.symm he.2)
   | (obtain ⟨_,_,_,h',_⟩:=h'; exact key _ h' (by simp [execOp,ho,h']) (h'▸h) he.1.symm he.2)
   | (obtain ⟨_,h',_⟩:=h'; exact key _ h' (by simp [execOp,ho,h']) (h'▸h) he.1.symm he.2)
   | (obtain ⟨_,h'⟩:=h'; exact key _ h' (by simp [execOp,ho,h']) (h'▸h) he.1.symm he.2)
theorem opds_ok (hs:SR P ρ lam s a w):∀ {l:List Operand} {l':List Opd},opds P l=some l'→((l'.map s.opd).any AV.isLoc=false)→VRs ρ (l'.map s.opd) (l.map a.eval)
 | [],l',h,_=>by simp only [opds,Option.some.injEq] at h; subst h; simp [VRs]
 | x::r,l',h,hl=>by
  simp only [opds] at h
  split at h
  ·rename_i y r' h1 h2
   cases h
   simp only [List.map_cons,List.any_cons,Bool.or_eq_false_iff] at hl ⊢
   simp only [VRs]
   exact ⟨_,_,rfl,(hs.opd h1).vr hl.1,opds_ok hs h2 hl.2⟩
  ·cases h
theorem op_mkfn {f:FuncId} {cs:Array Operand} {cs':List Opd} (ho:o.op=.makeFunc (.func f) #[] cs) (hx:opds P cs.toList=some cs') (hs:SR P ρ lam s a w)
  (he:opEv call (.mkfn f cs') s=some (v,s')) (hk:After P ρ lam s a w v s' o.dst next):o.wp P a w next Q:=by
 simp only [opEv] at he
 split at he
 ·cases he
 ·rename_i hl
  simp only [Option.some.injEq,Prod.mk.injEq] at he
  obtain ⟨rfl,rfl⟩:=he
  have h:=opds_ok hs hx (by simpa using hl)
  exact ok_plain hs hk (r:=.func (.func f) #[] (cs.map a.eval)) (by simp [execOp,ho,Instr.makeFunc]) (by simp only [VR]; exact ⟨_,rfl,by simpa using h⟩)
theorem op_ext {i:Nat} {x:Operand} {x':Opd} (ho:o.op=.extract x i) (hx:opd P x=some x') (hs:SR P ρ lam s a w)
  (he:opEv call (.ext x' i) s=some (v,s')) (hk:After P ρ lam s a w v s' o.dst next):o.wp P a w next Q:=by
 simp only [opEv] at he
 split at he
 ·rename_i l hx'
  simp only [Option.map_eq_some_iff,Prod.mk.injEq] at he
  obtain ⟨u,hu,rfl,rfl⟩:=he
  have h:=hs.opd hx
  rw [hx'] at h; simp only [VT,VR] at h
  obtain ⟨rs,hr,hrs⟩:=h
  obtain ⟨r,h1,h2⟩:=hrs.get hu
  have h1':rs[i]?=some r:=by simpa using h1
  exact ok_plain hs hk (r:=r) (by simp [execOp,ho,hr,Instr.extract,h1']) h2
 ·cases he
theorem op_lenS {t:TypeId} {x:Operand} {x':Opd} (ho:o.op=.call { callee:=.builtin .len,args:=#[x],argTypes:=#[t] }) (ht:P.underlying t=some .string) (hx:opd P x=some x') (hs:SR P ρ lam s a w)
  (he:opEv call (.lenS x') s=some (v,s')) (hk:After P ρ lam s a w v s' o.dst next):o.wp P a w next Q:=by
 simp only [opEv] at he
 split at he
 ·rename_i b hx'
  simp only [Option.some.injEq,Prod.mk.injEq] at he
  obtain ⟨rfl,rfl⟩:=he
  have h:=hs.opd hx
  rw [hx'] at h; simp only [VT,VR] at h
  exact ok_plain hs hk (r:=.int .i64 b.size) (by simp [execOp,ho,h,resolve,invoke,builtin,Builtin.len_,run_underlying ht,goInt]) (by simp [VR])
 ·cases he
theorem op_lenL {t e:TypeId} {x:Operand} {x':Opd} (ho:o.op=.call { callee:=.builtin .len,args:=#[x],argTypes:=#[t] }) (ht:P.underlying t=some (.slice e)) (hx:opd P x=some x') (hs:SR P ρ lam s a w)
  (he:opEv call (.lenL x') s=some (v,s')) (hk:After P ρ lam s a w v s' o.dst next):o.wp P a w next Q:=by
 simp only [opEv] at he
 have h:=hs.opd hx
 split at he
 ·rename_i hx'
  simp only [Option.some.injEq,Prod.mk.injEq] at he
  obtain ⟨rfl,rfl⟩:=he
  rw [hx'] at h; simp only [VT,VR] at h
  exact ok_plain hs hk (r:=.int .i64 0) (by simp [execOp,ho,h,resolve,invoke,builtin,Builtin.len_,run_underlying ht,goInt]) (by simp [VR])
 ·rename_i b o' n c e' hx'
  simp only [Option.some.injEq,Prod.mk.injEq] at he
  obtain ⟨rfl,rfl⟩:=he
  rw [hx'] at h; simp only [VT,VR] at h
  obtain ⟨_,_,_,h,_⟩:=h
  exact ok_plain hs hk (r:=.int .i64 n) (by simp [execOp,ho,h,resolve,invoke,builtin,Builtin.len_,run_underlying ht,goInt]) (by simp [VR])
 ·rename_i hx'
  simp only [Option.some.injEq,Prod.mk.injEq] at he
  obtain ⟨rfl,rfl⟩:=he
  rw [hx'] at h; simp only [VT,VR] at h
  obtain ⟨_,h⟩:=h
  exact ok_plain hs hk (r:=.int .i64 0) (by simp [execOp,ho,h,resolve,invoke,builtin,Builtin.len_,run_underlying ht,goInt]) (by simp [VR])
 ·cases he
end
end
end AG
