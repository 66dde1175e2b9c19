/- The abstract machine, part 21: the same evaluator by recursors: in the kernel it is quicker by far. -/
import Derived.Test.YtkmbepgofajfkaaDoorAgLaw
namespace AG
noncomputable section
open Go
def opF_mov (x:Opd) (_:Caller) (s:St):Option (AV×St):=some (s.opd x,s)
def opF_pick (c:Opd) (a:Opd) (b:Opd) (_:Caller) (s:St):Option (AV×St):=match s.opd c with
  | .bool t=>some (if t then s.opd a else s.opd b,s)
  | _=>none
def opF_alloc (p:Option Nat) (z:List AV) (_:Caller) (s:St):Option (AV×St):=s.new p z
def opF_box (p:Option Nat) (x:Opd) (_:Caller) (s:St):Option (AV×St):=match (s.opd x).cells? with
  | some cs=>s.new p cs
  | none=>none
def opF_build (z:List AV) (parts:List (Nat×Nat×Opd)) (_:Caller) (s:St):Option (AV×St):=match fillEv z (parts.map fun (o,k,x)=>(o,k,s.opd x)) with
  | some c=>some (.agg c,s)
  | none=>none
def opF_mkslc (sz:Nat) (len:Nat) (z:List AV) (parts:List (Nat×Opd)) (_:Caller) (s:St):Option (AV×St):=
  if len*sz≤2 ^ 24 then
   match fillEv (zerosEv z (len*sz)) (parts.map fun (i,x)=>(i*sz,sz,s.opd x)) with
   | some c=>if s.m.full then none else some (.slice s.m.n 0 len (some len) sz,{ s with m:=s.m.push (.cells c true) })
   | none=>none
  else none
def opF_load (k:Option Nat) (x:Opd) (_:Caller) (s:St):Option (AV×St):=
 match k with
 | none=>match s.read (s.opd x) 1 with
  | some [v]=>some (v,s)
  | _=>none
 | (some k)=>match s.read (s.opd x) k with
  | some l=>some (.agg l,s)
  | none=>none
def opF_store (k:Nat) (x:Opd) (v:Opd) (_:Caller) (s:St):Option (AV×St):=match (s.opd v).cells? with
  | some vs=>if vs.length=k then (match s.write (s.opd x) vs with
   | some s'=>some (.unk,s')
   | none=>none) else none
  | none=>none
def opF_nilck (x:Opd) (_:Caller) (s:St):Option (AV×St):=match s.opd x with
  | .unk | .nilp | .nili | .nilf=>none
  | v=>some (v,s)
def opF_bin (op:BinOp) (x:Opd) (y:Opd) (_:Caller) (s:St):Option (AV×St):=(binEv op (s.opd x) (s.opd y)).map fun v=>(v,s)
def opF_eq (neg:Bool) (k:EqK) (x:Opd) (y:Opd) (_:Caller) (s:St):Option (AV×St):=(eqEv k (s.opd x) (s.opd y)).map fun b=>(.bool (if neg then !b else b),s)
def opF_un (op:UnOp) (x:Opd) (_:Caller) (s:St):Option (AV×St):=(unEv op (s.opd x)).map fun v=>(v,s)
def opF_conv (k:IntKind) (x:Opd) (_:Caller) (s:St):Option (AV×St):=match s.opd x with
  | .int _ n=>some (.int k (k.wrap n),s)
  | _=>none
def opF_b2s (_:Opd) (_:Caller) (_:St):Option (AV×St):=none
def opF_mkfn (f:Nat) (cs:List Opd) (_:Caller) (s:St):Option (AV×St):=if (cs.map s.opd).any AV.isLoc then none else some (.fn f (cs.map s.opd),s)
def opF_make (sz:Nat) (bytes:Nat) (z:List AV) (l:Opd) (c:Opd) (_:Caller) (s:St):Option (AV×St):=match s.opd l,s.opd c with
  | .int _ l,.int _ c=>
   if 0≤l∧l≤c∧c≤2 ^ 40∧bytes*c≤2 ^ 47 then
    if s.m.full then none else
    some (.slice s.m.n 0 l.toNat (some c.toNat) sz,{ s with m:=s.m.push (.cells (zerosEv z (c.toNat*sz)) true) })
   else none
  | _,_=>none
def opF_slcS (x:Opd) (lo:Option Opd) (hi:Option Opd) (_:Caller) (s:St):Option (AV×St):=match s.opd x with
  | .str a=>match bndsEv a.size a.size (lo.map s.opd) (hi.map s.opd) none with
   | some (l,h,_)=>some (.str (a.extract l h),s)
   | none=>none
  | _=>none
def opF_slcL (sz:Nat) (x:Opd) (lo:Option Opd) (hi:Option Opd) (mx:Option Opd) (_:Caller) (s:St):Option (AV×St):=match s.opd x with
  | .nils=>match bndsEv 0 0 (lo.map s.opd) (hi.map s.opd) (mx.map s.opd) with
   | some _=>some (.nils,s)
   | none=>none
  | .slice b o n (some c) e=>match bndsEv n c (lo.map s.opd) (hi.map s.opd) (mx.map s.opd) with
   | some (l,h,m)=>some (.slice b (if m=l then o else o+l*sz) (h - l) (some (m - l)) e,s)
   | none=>none
  | .slice b o n none e=>match mx with
   | none=>match bndsEv n n (lo.map s.opd) (hi.map s.opd) none with
    | some (l,h,_)=>if l < n∧e=sz∧0 < sz then some (.slice b (o+l*sz) (h - l) none e,s) else none
    | none=>none
   | some mx=>match bndsEv n n (lo.map s.opd) (hi.map s.opd) (some (s.opd mx)) with
    | some (l,h,m)=>some (.slice b (if m=l then o else o+l*sz) (h - l) (some (m - l)) e,s)
    | none=>none
  | _=>none
def opF_slcA (n:Nat) (sz:Nat) (x:Opd) (lo:Option Opd) (hi:Option Opd) (mx:Option Opd) (_:Caller) (s:St):Option (AV×St):=match s.opd x with
  | .ptr b o=>match bndsEv n n (lo.map s.opd) (hi.map s.opd) (mx.map s.opd) with
   | some (l,h,m)=>if n≤maxLen then some (.slice b (if m=l then o else o+l*sz) (h - l) (some (m - l)) sz,s) else none
   | none=>none
  | _=>none
def opF_faddr (off:Nat) (x:Opd) (_:Caller) (s:St):Option (AV×St):=match s.opd x with
  | .ptr b o=>some (.ptr b (o+off),s)
  | .loc t o=>some (.loc t (o+off),s)
  | _=>none
def opF_fld (off:Nat) (k:Option Nat) (x:Opd) (_:Caller) (s:St):Option (AV×St):=match s.opd x with
  | .agg l=>match k with
   | none=>(l[off]?).map fun v=>(v,s)
   | some k=>if off+k≤l.length then some (.agg ((l.drop off).take k),s) else none
  | _=>none
def opF_iaddrL (sz:Nat) (x:Opd) (i:Opd) (_:Caller) (s:St):Option (AV×St):=match s.opd x,s.opd i with
  | .slice b o n _ _,.int _ i=>if 0≤i∧i < n then some (.ptr b (o+i.toNat*sz),s) else none
  | _,_=>none
def opF_iaddrA (n:Nat) (sz:Nat) (x:Opd) (i:Opd) (_:Caller) (s:St):Option (AV×St):=match s.opd x,s.opd i with
  | .ptr b o,.int _ i=>if 0≤i∧i < n then some (.ptr b (o+i.toNat*sz),s) else none
  | .loc t o,.int _ i=>if 0≤i∧i < n then some (.loc t (o+i.toNat*sz),s) else none
  | _,_=>none
def opF_idxS (x:Opd) (i:Opd) (_:Caller) (s:St):Option (AV×St):=match s.opd x,s.opd i with
  | .str a,.int _ i=>if 0≤i then (match a[i.toNat]? with
   | some c=>some (.int .u8 c.toNat,s)
   | none=>none) else none
  | _,_=>none
def opF_idxA (n:Nat) (sz:Nat) (agg:Bool) (x:Opd) (i:Opd) (_:Caller) (s:St):Option (AV×St):=match s.opd x,s.opd i with
  | .agg l,.int _ i=>if 0≤i∧i < n then (if agg then (if i.toNat*sz+sz≤l.length then some (.agg ((l.drop (i.toNat*sz)).take sz),s) else none) else (l[i.toNat*sz]?).map fun v=>(v,s)) else none
  | _,_=>none
def opF_ext (x:Opd) (i:Nat) (_:Caller) (s:St):Option (AV×St):=match s.opd x with
  | .tup l=>(l[i]?).map fun v=>(v,s)
  | _=>none
def opF_call (f:Nat) (args:List Opd) (call:Caller) (s:St):Option (AV×St):=callWith call f (args.map s.opd) s
def opF_callv (f:Opd) (args:List Opd) (call:Caller) (s:St):Option (AV×St):=match s.opd f with
  | .fn g cs=>callWith call g (args.map s.opd++cs) s
  | _=>none
def opF_lenS (x:Opd) (_:Caller) (s:St):Option (AV×St):=match s.opd x with
  | .str a=>some (.int .i64 a.size,s)
  | _=>none
def opF_lenL (x:Opd) (_:Caller) (s:St):Option (AV×St):=match s.opd x with
  | .nils=>some (.int .i64 0,s)
  | .slice _ _ n _ _=>some (.int .i64 n,s)
  | .es=>some (.int .i64 0,s)
  | _=>none
def opF_app (ty:Option Nat) (sz:Nat) (bytes:Nat) (x:Opd) (y:Opd) (_:Caller) (s:St):Option (AV×St):=appEv s ty sz bytes (s.opd x) (s.opd y)
def opF_max (l:List Opd) (_:Caller) (s:St):Option (AV×St):=if (l.map s.opd).any AV.isLoc then none else match l.map s.opd with
  | []=>none
  | x::r=>(maxEv x r).map fun v=>(v,s)
def opF_min (l:List Opd) (_:Caller) (s:St):Option (AV×St):=if (l.map s.opd).any AV.isLoc then none else match l.map s.opd with
  | []=>none
  | x::r=>(minEv x r).map fun v=>(v,s)
def opF_copy (_:Nat) (_:Opd) (_:Opd) (_:Caller) (_:St):Option (AV×St):=none
def opF_xp (k:XP) (l:List Opd) (_:Caller) (s:St):Option (AV×St):=if (l.map s.opd).any AV.isLoc then none else (xpEv k (l.map s.opd)).map fun v=>(v,s)
def opF_xm (k:XM) (l:List Opd) (_:Caller) (s:St):Option (AV×St):=callWith (fun _ args m=>xmEv k args m) 0 (l.map s.opd) s
def opF_bad  (_:Caller) (_:St):Option (AV×St):=none
def opF (call:Caller) (o:AOp) (s:St):Option (AV×St):=
 AOp.rec (motive:=fun _=>Caller→St→Option (AV×St)) opF_mov opF_pick opF_alloc opF_box opF_build opF_mkslc opF_load opF_store opF_nilck opF_bin opF_eq opF_un opF_conv opF_b2s opF_mkfn opF_make opF_slcS opF_slcL opF_slcA opF_faddr opF_fld opF_iaddrL opF_iaddrA opF_idxS opF_idxA opF_ext opF_call opF_callv opF_lenS opF_lenL opF_app opF_max opF_min opF_copy opF_xp opF_xm opF_bad o call s
theorem opF_ok (call:Caller) (o:AOp) (s:St):opF call o s=opEv call o s:=by
 cases o
 case load k x=>cases k <;> rfl
 all_goals rfl
def oneF (call:Caller) (o:AOper) (s:St):Option St:=
 Option.rec none (fun b=>Bool.rec (s.put o.dst (.tup [])) (Option.rec none (fun q=>q.2.put o.dst q.1) (opF call o.op s)) b) (guardEv o.guard s)
theorem oneF_eq (call:Caller) (o:AOper) (s:St):oneF call o s=oneEv call o s:=by
 unfold oneF oneEv
 cases guardEv o.guard s with
 | none=>rfl
 | some b=>
  cases b
  ·rfl
  ·dsimp only
   rw [opF_ok]
   cases opEv call o.op s <;> rfl
def dOneF (call:Caller) (o:AOper×Bool) (s:St):Option St:=
 Option.rec none (fun b=>Bool.rec (s.put o.1.dst (.tup [])) (Bool.rec (Option.rec none (fun q=>q.2.put o.1.dst q.1) (opF call o.1.op s)) none (o.2&&!careEv o.1.op s)) b) (guardEv o.1.guard s)
theorem dOneF_eq (call:Caller) (o:AOper×Bool) (s:St):dOneF call o s=dOneEv call o s:=by
 unfold dOneF dOneEv
 cases guardEv o.1.guard s with
 | none=>rfl
 | some b=>
  cases b
  ·rfl
  ·dsimp only
   rw [opF_ok]
   cases (o.2&&!careEv o.1.op s)
   ·cases opEv call o.1.op s <;> rfl
   ·rfl
def opsF (call:Caller) (l:List AOper):St→Option St:=
 List.rec (motive:=fun _=>St→Option St) (fun s=>some s) (fun o _ ih s=>Option.rec none (fun s'=>ih s') (oneF call o s)) l
theorem opsF_eq (call:Caller):∀ (l:List AOper) (s:St),opsF call l s=opsEv call l s
 | [],s=>rfl
 | o::r,s=>by
  show (Option.rec none (fun s'=>opsF call r s') (oneF call o s):Option St)=_
  simp only [opsEv,oneF_eq]
  cases oneEv call o s with
  | none=>rfl
  | some s'=>exact opsF_eq call r s'
def dOpsF (call:Caller) (l:List (Bool×AOper×Bool)):St→Option (St×List Acc):=
 List.rec (motive:=fun _=>St→Option (St×List Acc)) (fun s=>some (s,[]))
  (fun o _ ih s=>Option.rec none (fun s'=>Option.rec none (fun q=>some (q.1,accOf o.1 o.2.1 s s'++q.2)) (ih s')) (dOneF call o.2 s)) l
theorem dOpsF_eq (call:Caller):∀ (l:List (Bool×AOper×Bool)) (s:St),dOpsF call l s=dOpsEv call l s
 | [],s=>rfl
 | o::r,s=>by
  show (Option.rec none (fun s'=>Option.rec none (fun q=>some (q.1,accOf o.1 o.2.1 s s'++q.2)) (dOpsF call r s')) (dOneF call o.2 s):Option (St×List Acc))=_
  simp only [dOpsEv,dOneF_eq]
  cases dOneEv call o.2 s with
  | none=>rfl
  | some s'=>
   dsimp only
   rw [dOpsF_eq call r s']
   cases dOpsEv call r s' with
   | none=>rfl
   | some q=>rfl
def codeF (call:Caller) (again:AC→St→Option (Ex×St)) (c:AC):St→Option (Ex×St):=
 AC.rec (motive:=fun _=>St→Option (Ex×St))
  (fun s=>some (.norm,s))
  (fun l s=>Option.rec none (fun s'=>some (.norm,s')) (opsF call l s))
  (fun l s=>Option.rec none (fun q=>Bool.rec none (some (.norm,q.1)) (logOk q.2)) (dOpsF call l s))
  (fun _ _ ia ib s=>Option.rec none (fun q=>Ex.rec (ib q.2) (fun id=>some (.exit id,q.2)) (some (.ret,q.2)) q.1) (ia s))
  (fun c _ _ ia ib s=>match s.opd c with
   | .bool t=>Bool.rec (ib s) (ia s) t
   | _=>none)
  (fun id _ ia s=>Option.rec none (fun q=>Ex.rec (some (.norm,q.2)) (fun id'=>Bool.rec (some (.exit id',q.2)) (some (.norm,q.2)) (Nat.beq id' id)) (some (.ret,q.2)) q.1) (ia s))
  (fun a ia s=>Option.rec none (fun q=>Ex.rec (again (.loop a) q.2) (fun id=>some (.exit id,q.2)) (some (.ret,q.2)) q.1) (ia s))
  (fun id s=>some (.exit id,s))
  (fun s=>some (.ret,s))
  (fun ts ls _ ia s=>ia { s with t:=keepT ts ls s.t,l:=keepL s.l ls })
  (fun _=>none) c
theorem codeF_eq (call:Caller) (again:AC→St→Option (Ex×St)):∀ (c:AC) (s:St),codeF call again c s=codeEv call again c s:=by
 intro c
 induction c with
 | skip=>intro s; rfl
 | reg l=>
  intro s
  show (Option.rec none (fun s'=>some (Ex.norm,s')) (opsF call l s):Option (Ex×St))=_
  rw [opsF_eq]
  simp only [codeEv]
  cases opsEv call l s <;> rfl
 | dreg l=>
  intro s
  show (Option.rec none (fun q:St×List Acc=>Bool.rec none (some (Ex.norm,q.1)) (logOk q.2)) (dOpsF call l s):Option (Ex×St))=_
  rw [dOpsF_eq]
  simp only [codeEv]
  cases dOpsEv call l s with
  | none=>rfl
  | some q=>(show (Bool.rec none (some (Ex.norm,q.1)) (logOk q.2):Option (Ex×St))=if logOk q.2=true then _ else _); cases h:logOk q.2 <;> rfl
 | seq a b iha ihb=>
  intro s
  show (Option.rec none (fun q:Ex×St=>Ex.rec (codeF call again b q.2) (fun id=>some (.exit id,q.2)) (some (.ret,q.2)) q.1) (codeF call again a s):Option (Ex×St))=_
  rw [iha]
  simp only [codeEv]
  cases codeEv call again a s with
  | none=>rfl
  | some q=>
   obtain ⟨e,s'⟩:=q
   cases e
   ·exact ihb s'
   ·rfl
   ·rfl
 | cond c a b iha ihb=>
  intro s
  show (match s.opd c with
   | .bool t=>(Bool.rec (codeF call again b s) (codeF call again a s) t:Option (Ex×St))
   | _=>none)=_
  simp only [codeEv]
  cases s.opd c <;> try rfl
  rename_i t
  cases t
  ·exact ihb s
  ·exact iha s
 | block id a iha=>
  intro s
  show (Option.rec none (fun q:Ex×St=>Ex.rec (some (.norm,q.2)) (fun id'=>Bool.rec (some (.exit id',q.2)) (some (.norm,q.2)) (Nat.beq id' id)) (some (.ret,q.2)) q.1) (codeF call again a s):Option (Ex×St))=_
  rw [iha]
  simp only [codeEv]
  cases codeEv call again a s with
  | none=>rfl
  | some q=>
   obtain ⟨e,s'⟩:=q
   cases e
   ·rfl
   ·exact brec_eq _ _
   ·rfl
 | loop a iha=>
  intro s
  show (Option.rec none (fun q:Ex×St=>Ex.rec (again (.loop a) q.2) (fun id=>some (.exit id,q.2)) (some (.ret,q.2)) q.1) (codeF call again a s):Option (Ex×St))=_
  rw [iha]
  simp only [codeEv]
  cases codeEv call again a s with
  | none=>rfl
  | some q=>
   obtain ⟨e,s'⟩:=q
   cases e <;> rfl
 | exit id=>intro s; rfl
 | ret=>intro s; rfl
 | keep ts ls a iha=>intro s; exact iha _
 | bad=>intro s; rfl
def fnF (call:Caller) (again:AC→St→Option (Ex×St)) (f:AFn) (args:List AV) (m:Mem):Option (AV×Mem):=
 match f.prim with
 | some p=>p call args m
 | none=>
 Bool.rec none (match codeF call again f.body { n:=f.n,t:=argsT 0 args,l:=[],m } with
  | some (.norm,s) | some (.ret,s)=>match resEv s f.res with
   | some [v]=>if v.isLoc then none else some (v,s.m)
   | some l=>if l.any AV.isLoc then none else some (.tup l,s.m)
   | none=>none
  | _=>none) (Nat.beq args.length f.np)
theorem fnF_eq (call:Caller) (again:AC→St→Option (Ex×St)) (f:AFn) (args:List AV) (m:Mem):fnF call again f args m=fnEv call again f args m:=by
 unfold fnF fnEv
 cases f.prim with
 | some p=>rfl
 | none=>
  dsimp only
  rw [brec_eq,codeF_eq]
  by_cases h:args.length=f.np
  ·rw [if_pos h,if_pos h]; rfl
  ·rw [if_neg h,if_neg h]
def evF (A:Nat→Option AFn) (n:Nat):Caller×(AC→St→Option (Ex×St)):=
 Nat.rec (fun _ _ _=>none,fun _ _=>none) (fun _ ih=>
  (fun f args m=>Option.rec none (fun fn=>fnF ih.1 ih.2 fn args m) (A f),fun c s=>codeF ih.1 ih.2 c s)) n
theorem evF_eq (A:Nat→Option AFn):∀ n,evF A n=ev A n
 | 0=>rfl
 | n+1=>by
  show (_,_)=(_,_)
  congr 1
  ·funext f args m
   show (Option.rec none (fun fn=>fnF (evF A n).1 (evF A n).2 fn args m) (A f):Option (AV×Mem))=(match A f with
    | some fn=>fnEv (ev A n).1 (ev A n).2 fn args m
    | none=>none)
   rw [evF_eq A n]
   cases A f with
   | none=>rfl
   | some fn=>exact fnF_eq _ _ _ _ _
  ·funext c s
   show codeF (evF A n).1 (evF A n).2 c s=codeEv (ev A n).1 (ev A n).2 c s
   rw [evF_eq A n]
   exact codeF_eq _ _ _ _
def runF (A:Nat→Option AFn) (n:Nat):Caller:=(evF A n).1
def lkF (l:List (Nat×AFn)) (f:Nat):Option AFn:=List.rec none (fun p _ ih=>Bool.rec ih (some p.2) (Nat.beq p.1 f)) l
def OkF (P:Program) (f:Nat) (af:AFn):Prop:=(∃ H fn,P.funcs[f]?=some fn∧trFn P H fn=some af)∨∃ p,af.prim=some p∧PrimOk P f p
def AllOk (P:Program):List (Nat×AFn)→Prop
 | []=>True
 | p::r=>OkF P p.1 p.2∧AllOk P r
theorem lkF_ok {P:Program}:∀ {l:List (Nat×AFn)},AllOk P l→AOk P (lkF l)
 | [],_,f,af,h=>by cases h
 | p::r,⟨h1,h2⟩,f,af,h=>by
  have h':(Bool.rec (lkF r f) (some p.2) (Nat.beq p.1 f):Option AFn)=some af:=h
  rw [brec_eq] at h'
  split at h'
  ·rename_i e
   cases h'
   subst e
   exact h1
  ·exact lkF_ok h2 f af h'
theorem runF_eq (A:Nat→Option AFn) (n:Nat):runF A n=run A n:=by unfold runF run; rw [evF_eq]
end
end AG
