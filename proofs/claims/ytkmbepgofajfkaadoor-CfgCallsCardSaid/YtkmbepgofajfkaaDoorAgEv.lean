/- The abstract machine, part 2: operations, code, the evaluator, and the translation out of the model's text. -/
import Derived.Test.YtkmbepgofajfkaaDoorAgBase
namespace AG
noncomputable section
open Go
structure St where
 n:Nat
 t:List (Nat×AV)
 l:List (Nat×List AV)
 m:Mem
def look (l:List (Nat×AV)) (t:Nat):AV:=
 List.rec .unk (fun p _ ih=>Bool.rec ih p.2 (Nat.beq p.1 t)) l
def setT (l:List (Nat×AV)) (t:Nat) (v:AV):List (Nat×AV):=
 List.rec [(t,v)] (fun p r ih=>Bool.rec (Bool.rec ((t,v)::p::r) (p::ih) (Nat.ble p.1 t)) ((t,v)::r) (Nat.beq p.1 t)) l
def lookL (l:List (Nat×List AV)) (t:Nat):Option (List AV):=
 List.rec none (fun p _ ih=>Bool.rec ih (some p.2) (Nat.beq p.1 t)) l
def setL (l:List (Nat×List AV)) (t:Nat) (v:List AV):List (Nat×List AV):=
 List.rec [(t,v)] (fun p r ih=>Bool.rec (Bool.rec ((t,v)::p::r) (p::ih) (Nat.ble p.1 t)) ((t,v)::r) (Nat.beq p.1 t)) l
theorem brec_eq {α:Sort _} {u t:Nat} (a b:α):(Bool.rec a b (Nat.beq u t):α)=if u=t then b else a:=by
 by_cases h:u=t
 ·subst h; rw [if_pos rfl,Nat.beq_refl]
 ·rw [if_neg h]
  cases hb:Nat.beq u t
  ·rfl
  ·exact absurd (Nat.eq_of_beq_eq_true hb) h
theorem brec_lt {α:Sort _} {u t:Nat} (a b:α):(Bool.rec a b (Nat.ble u t):α)=if t < u then a else b:=by
 by_cases h:t < u
 ·rw [if_pos h]
  cases hb:Nat.ble u t
  ·rfl
  ·have:=Nat.le_of_ble_eq_true hb; omega
 ·rw [if_neg h]
  cases hb:Nat.ble u t
  ·exact absurd (Nat.ble_eq_true_of_le (by omega:u≤t)) (by simp [hb])
  ·rfl
theorem look_nil (t:Nat):look [] t=.unk:=rfl
theorem look_cons (u t:Nat) (v:AV) (r:List (Nat×AV)):look ((u,v)::r) t=if u=t then v else look r t:=brec_eq _ _
theorem setT_nil (t:Nat) (v:AV):setT [] t v=[(t,v)]:=rfl
theorem setT_cons (u t:Nat) (x v:AV) (r:List (Nat×AV)):setT ((u,x)::r) t v=if u=t then (t,v)::r else if t < u then (t,v)::(u,x)::r else (u,x)::setT r t v:=
 (brec_eq _ _).trans (by rw [brec_lt]; rfl)
theorem lookL_nil (t:Nat):lookL [] t=none:=rfl
theorem lookL_cons (u t:Nat) (v:List AV) (r:List (Nat×List AV)):lookL ((u,v)::r) t=if u=t then some v else lookL r t:=brec_eq _ _
theorem setL_nil (t:Nat) (v:List AV):setL [] t v=[(t,v)]:=rfl
theorem setL_cons (u t:Nat) (x v:List AV) (r:List (Nat×List AV)):setL ((u,x)::r) t v=if u=t then (t,v)::r else if t < u then (t,v)::(u,x)::r else (u,x)::setL r t v:=
 (brec_eq _ _).trans (by rw [brec_lt]; rfl)
inductive Opd where
 | tmp (t:Nat)
 | val (v:AV)
def St.opd (s:St):Opd→AV
 | .tmp t=>look s.t t
 | .val v=>v
def AV.isLoc:AV→Bool
 | .loc _ _=>true
 | _=>false
def AV.one:AV→Bool
 | .unk | .loc _ _ | .agg _ | .tup _=>false
 | _=>true
def AV.cells?:AV→Option (List AV)
 | .unk | .loc _ _ | .tup _=>none
 | .agg l=>some l
 | v=>some [v]
def splice (c:List AV) (o:Nat) (vs:List AV):List AV:=c.take o++vs++c.drop (o+vs.length)
def cellsAt (c:List AV) (o k:Nat):Option (List AV):=if o+k≤c.length then some ((c.drop o).take k) else none
def St.read (s:St) (x:AV) (k:Nat):Option (List AV):=
 match x with
 | .ptr b o=>match s.m.get b with
  | some (.cells c _)=>cellsAt c o k
  | _=>none
 | .loc t o=>match lookL s.l t with
  | some c=>cellsAt c o k
  | none=>none
 | _=>none
def St.write (s:St) (x:AV) (vs:List AV):Option St:=
 if vs.all AV.one&&!vs.isEmpty then
  match x with
  | .ptr b o=>match s.m.get b with
   | some (.cells c true)=>if o+vs.length≤c.length then some { s with m:=s.m.set b (.cells (splice c o vs) true) } else none
   | _=>none
  | .loc t o=>match lookL s.l t with
   | some c=>if o+vs.length≤c.length then some { s with l:=setL s.l t (splice c o vs) } else none
   | none=>none
  | _=>none
 else none
def scrub (t:Nat):List (Nat×AV)→List (Nat×AV)
 | []=>[]
 | (u,v)::r=>(u,match v with | .loc t' _=>if t'=t then .unk else v | _=>v)::scrub t r
def St.new (s:St) (p:Option Nat) (cs:List AV):Option (AV×St):=
 match p with
 | none=>if s.m.full then none else some (.ptr s.m.n 0,{ s with m:=s.m.push (.cells cs true) })
 | some t=>some (.loc t 0,{ s with t:=(match lookL s.l t with | none=>s.t | some _=>scrub t s.t),l:=setL s.l t cs })
def intBin (op:BinOp) (k:IntKind) (a b:Int):Option AV:=
 match op with
 | .add=>some (.int k (k.wrap (a+b)))
 | .sub=>some (.int k (k.wrap (a - b)))
 | .mul=>some (.int k (k.wrap (a*b)))
 | .quo=>if b=0 then none else some (.int k (k.wrap (a.tdiv b)))
 | .rem=>if b=0 then none else some (.int k (a.tmod b))
 | .and=>some (.int k (k.wrap (BitVec.ofInt k.bits a &&& BitVec.ofInt k.bits b).toNat))
 | .or=>some (.int k (k.wrap (BitVec.ofInt k.bits a ||| BitVec.ofInt k.bits b).toNat))
 | .xor=>some (.int k (k.wrap (BitVec.ofInt k.bits a ^^^ BitVec.ofInt k.bits b).toNat))
 | .andNot=>some (.int k (k.wrap (BitVec.ofInt k.bits a &&& ~~~ BitVec.ofInt k.bits b).toNat))
 | .eql=>some (.bool (a == b))
 | .neq=>some (.bool (a != b))
 | .lss=>some (.bool (decide (a < b)))
 | .leq=>some (.bool (decide (a≤b)))
 | .gtr=>some (.bool (decide (a > b)))
 | .geq=>some (.bool (decide (a ≥ b)))
 | _=>none
def strBin (op:BinOp) (a b:ByteArray):Option AV:=
 match op with
 | .add=>if ((a.size+b.size:Nat):Int) > IntKind.i64.max then none else some (.str (a++b))
 | .eql=>some (.bool (a.toList == b.toList))
 | .neq=>some (.bool (!(a.toList == b.toList)))
 | .lss=>some (.bool (Op.bytesLess a.toList b.toList))
 | .leq=>some (.bool (Op.bytesLess a.toList b.toList||a.toList == b.toList))
 | .gtr=>some (.bool (!(Op.bytesLess a.toList b.toList||a.toList == b.toList)))
 | .geq=>some (.bool (!Op.bytesLess a.toList b.toList))
 | _=>none
def binEv (op:BinOp) (x y:AV):Option AV:=
 match x,y with
 | .int k a,.int k' b=>
  match op with
  | .shl=>if b < 0 then none else some (.int k (k.wrap (a*2 ^ (min b.toNat k.bits))))
  | .shr=>if b < 0 then none else some (.int k (a.fdiv (2 ^ (min b.toNat k.bits))))
  | op=>if k=k' then intBin op k a b else none
 | .str a,.str b=>strBin op a b
 | _,_=>none
inductive EqK where
 | bool
 | nilS
 | nilM
 | nilF
 | nilI (c:Bool)
 | ptr
 | agg (offs:List (Nat×Nat))
def leafEq:Nat→AV→AV→Option Bool
 | 0,.int k a,.int k' b=>if k=k' then some (a == b) else none
 | 1,.bool a,.bool b=>some (a == b)
 | 2,.str a,.str b=>some (a == b)
 | _,_,_=>none
def leavesEq (x y:List AV):List (Nat×Nat)→Option Bool
 | []=>some true
 | (o,k)::r=>match x[o]?,y[o]? with
  | some a,some b=>match leafEq k a b with
   | some true=>leavesEq x y r
   | some false=>some false
   | none=>none
  | _,_=>none
def eqEv (k:EqK) (x y:AV):Option Bool:=
 match k,x,y with
 | .bool,.bool a,.bool b=>some (a == b)
 | .nilS,.nils,.nils=>some true
 | .nilS,.nils,.slice ..=>some false
 | .nilS,.slice ..,.nils=>some false
 | .nilM,.nilm,.nilm=>some true
 | .nilM,.nilm,.map _=>some false
 | .nilM,.map _,.nilm=>some false
 | .nilF,.nilf,.nilf=>some true
 | .nilF,.nilf,.fn ..=>some false
 | .nilF,.fn ..,.nilf=>some false
 | .nilI c,.nili,.nili=>if c then some true else none
 | .nilI _,.nili,.iface ..=>some false
 | .nilI _,.iface ..,.nili=>some false
 | .ptr,.nilp,.nilp=>some true
 | .ptr,.nilp,.ptr ..=>some false
 | .ptr,.ptr ..,.nilp=>some false
 | .ptr,.nilp,.loc ..=>some false
 | .ptr,.loc ..,.nilp=>some false
 | .ptr,.ptr b o,.ptr b' o'=>if b=b' then some (o == o') else none
 | .agg offs,.agg xs,.agg ys=>leavesEq xs ys offs
 | _,_,_=>none
def unEv (op:UnOp) (x:AV):Option AV:=
 match op,x with
 | .neg,.int k n=>intBin .sub k 0 n
 | .xor,.int k n=>intBin .xor k (if k.signed then -1 else k.max) n
 | .not,.bool b=>some (.bool (!b))
 | _,_=>none
def fillEv:List AV→List (Nat×Nat×AV)→Option (List AV)
 | c,[]=>some c
 | c,(o,k,v)::r=>match v.cells? with
  | some vs=>if vs.length=k then (if o+k≤c.length then fillEv (splice c o vs) r else none) else none
  | none=>none
def zerosEv (z:List AV) (n:Nat):List AV:=(List.range n).map fun i=>z.getD (i % z.length) .unk
inductive KeyK where
 | int
 | str
def keyEq (k:KeyK) (x y:AV):Option Bool:=
 match k,x,y with
 | .int,.int a m,.int b n=>if a=b then some (m == n) else none
 | .str,.str a,.str b=>some (a == b)
 | _,_,_=>none
def findK (k:KeyK) (x:AV):List (AV×AV×Nat)→Nat→Option (Option (Nat×AV))
 | [],_=>some none
 | (u,v,_)::r,i=>match keyEq k x u with
  | some true=>some (some (i,v))
  | some false=>findK k x r (i+1)
  | none=>none
def keyEq2 (x y:AV):Option Bool:=
 match x,y with
 | .agg [.int .i64 a,.int .i64 b],.agg [.int .i64 c,.int .i64 d]=>some (a == c&&b == d)
 | _,_=>none
def findA (x:AV):List (AV×AV×Nat)→Nat→Option (Option (Nat×AV))
 | [],_=>some none
 | (u,v,_)::r,i=>match keyEq2 x u with
  | some true=>some (some (i,v))
  | some false=>findA x r (i+1)
  | none=>none
inductive XP where
 | mkif (t:Nat)
 | tas (t:Nat) (ok:Bool) (z:AV)
 | cap
 | usd
 | sid
inductive XM where
 | b2s
 | s2b
 | copy (sz:Nat)
 | rngS
 | nxtS
 | ustr (u:Nat)
 | upU
 | upF (tbl:List (Nat×Nat))
 | mkz (ty:Option Nat)
 | allocT (t:Nat) (z:List AV)
 | mkmap
 | mlk (k:KeyK) (z:AV) (ok:Bool)
 | mup (k:KeyK)
 | mlk2 (z:AV) (ok:Bool)
 | mup2
 | lenM
 | mclr
 | sclr (sz:Nat) (z:List AV)
 | mark
inductive AOp where
 | mov (x:Opd)
 | pick (c a b:Opd)
 | alloc (p:Option Nat) (z:List AV)
 | box (p:Option Nat) (x:Opd)
 | build (z:List AV) (parts:List (Nat×Nat×Opd))
 | mkslc (sz len:Nat) (z:List AV) (parts:List (Nat×Opd))
 | load (k:Option Nat) (x:Opd)
 | store (k:Nat) (x v:Opd)
 | nilck (x:Opd)
 | bin (op:BinOp) (x y:Opd)
 | eq (neg:Bool) (k:EqK) (x y:Opd)
 | un (op:UnOp) (x:Opd)
 | conv (k:IntKind) (x:Opd)
 | b2s (x:Opd)
 | mkfn (f:Nat) (cs:List Opd)
 | make (sz bytes:Nat) (z:List AV) (l c:Opd)
 | slcS (x:Opd) (lo hi:Option Opd)
 | slcL (sz:Nat) (x:Opd) (lo hi mx:Option Opd)
 | slcA (n sz:Nat) (x:Opd) (lo hi mx:Option Opd)
 | faddr (off:Nat) (x:Opd)
 | fld (off:Nat) (k:Option Nat) (x:Opd)
 | iaddrL (sz:Nat) (x i:Opd)
 | iaddrA (n sz:Nat) (x i:Opd)
 | idxS (x i:Opd)
 | idxA (n sz:Nat) (agg:Bool) (x i:Opd)
 | ext (x:Opd) (i:Nat)
 | call (f:Nat) (args:List Opd)
 | callv (f:Opd) (args:List Opd)
 | lenS (x:Opd)
 | lenL (x:Opd)
 | app (ty:Option Nat) (sz bytes:Nat) (s x:Opd)
 | max (l:List Opd)
 | min (l:List Opd)
 | copy (sz:Nat) (d s:Opd)
 | xp (k:XP) (l:List Opd)
 | xm (k:XM) (l:List Opd)
 | bad
def bndEv (top:Nat) (v:AV):Option Nat:=
 match v with
 | .int _ i=>if 0≤i∧i≤top then some i.toNat else none
 | _=>none
def obnd (top dflt:Nat):Option AV→Option Nat
 | none=>some dflt
 | some v=>bndEv top v
def bndsEv (len cap:Nat) (lo hi mx:Option AV):Option (Nat×Nat×Nat):=
 match obnd cap cap mx with
 | some m=>match hi,mx with
  | none,some _=>none
  | hi,_=>match obnd m len hi with
   | some h=>match obnd h 0 lo with
    | some l=>some (l,h,m)
    | none=>none
   | none=>none
 | none=>none
def bytesAV (s:ByteArray):List AV:=s.data.toList.map fun b=>.int .u8 b.toNat
def AV.elems (s:St) (x:AV) (sz:Nat):Option (Nat×List AV):=
 match x with
 | .nils=>some (0,[])
 | .es=>some (0,[])
 | .slice b o n _ _=>if n=0 then some (0,[]) else match s.m.get b with
  | some (.cells c _)=>match cellsAt c o (n*sz) with
   | some l=>some (n,l)
   | none=>none
  | _=>none
 | .str a=>if sz=1 then some (a.size,bytesAV a) else none
 | _=>none
def appEv (s:St) (ty:Option Nat) (sz bytes:Nat) (x y:AV):Option (AV×St):=
 match y.elems s sz with
 | none=>none
 | some (m,news)=>
  if news.all AV.one then
  if s.m.full then none else
  match x with
  | .nils=>if m=0 then some (.nils,s) else
    if (2*m)*bytes≤281474976710656∧m≤maxLen then some (.slice s.m.n 0 m none sz,{ s with m:=(s.m.push (.cells news true)).noteO s.m.n ty }) else none
  | .slice b o n cap e=>match s.m.get b with
   | some (.cells c own)=>
    let need:=n+m
    match cap with
    | some cp=>
     if need≤cp then
      if own then (if o+need*sz≤c.length then some (.slice b o need cap e,{ s with m:=s.m.set b (.cells (splice c (o+n*sz) news) true) }) else none) else none
     else match cellsAt c o (n*sz) with
      | some old=>if (2*need)*bytes≤281474976710656∧need≤maxLen then some (.slice s.m.n 0 need none sz,{ s with m:=(s.m.push (.cells (old++news) true)).noteO s.m.n ty }) else none
      | none=>none
    | none=>
     if own then
      if e=sz∧0 < sz then
       if o+need*sz≤c.length then some (.slice b o need none e,{ s with m:=s.m.set b (.cells (splice c (o+n*sz) news) true) }) else
       match cellsAt c o (n*sz) with
       | some old=>if (2*need)*bytes≤281474976710656∧need≤maxLen then some (.slice s.m.n 0 need none sz,{ s with m:=((s.m.set b .dead).push (.cells (old++news) true)).noteO s.m.n (if (s.m.tyOf b).map (·.1)=ty then ty else none) }) else none
       | none=>none
      else none
     else none
   | _=>none
  | _=>none
  else none
def maxEv:AV→List AV→Option AV
 | x,[]=>some x
 | .int k a,.int _ b::r=>maxEv (.int k (if b > a then b else a)) r
 | _,_::_=>none
def minEv:AV→List AV→Option AV
 | x,[]=>some x
 | .int k a,.int _ b::r=>minEv (.int k (if b < a then b else a)) r
 | _,_::_=>none
abbrev Caller:=Nat→List AV→Mem→Option (AV×Mem)
def bytesOf:List AV→Option (List UInt8)
 | []=>some []
 | .int .u8 n::r=>match bytesOf r with
  | some l=>some (UInt8.ofNat n.toNat::l)
  | none=>none
 | _::_=>none
def capOf (n:Nat):Option Nat→Nat
 | some c=>c
 | none=>n
def xpEv (k:XP) (l:List AV):Option AV:=
 match k,l with
 | .mkif t,[v]=>some (.iface t v)
 | .tas _ ok z,[.nili]=>if ok then some (.tup [z,.bool false]) else none
 | .tas t ok z,[.iface u v]=>if u=t then some (if ok then .tup [v,.bool true] else v) else if ok then some (.tup [z,.bool false]) else none
 | .sid,[.str a]=>some (.str a)
 | .cap,[.nils]=>some (.int .i64 0)
 | .cap,[.slice _ _ _ (some c) _]=>some (.int .i64 c)
 | .usd,[.nils]=>some .nilp
 | .usd,[.slice b o n c _]=>if capOf n c=0 then none else some (.ptr b o)
 | _,_=>none
def elemsM (m:Mem) (x:AV) (sz:Nat):Option (Nat×List AV):=AV.elems { n:=0,t:=[],l:=[],m } x sz
def lenV:AV→Option Nat
 | .nils=>some 0
 | .slice _ _ n _ _=>some n
 | .str a=>some a.size
 | _=>none
def truncV:AV→Nat→AV
 | .slice b o _ c e,k=>.slice b o k c e
 | .str a,k=>.str (a.extract 0 k)
 | v,_=>v
def setE (es:List (AV×AV×Nat)) (i:Nat) (k v:AV):List (AV×AV×Nat):=
 match es,i with
 | [],_=>[]
 | (_,_,b)::r,0=>(k,v,b)::r
 | e::r,i+1=>e::setE r i k v
def xmEv (k:XM) (l:List AV) (m:Mem):Option (AV×Mem):=
 match k,l with
 | .b2s,[x]=>match elemsM m x 1,x with
  | some (_,c),.nils | some (_,c),.slice ..=>match bytesOf c with
   | some b=>some (.str ⟨b.toArray⟩,m)
   | none=>none
  | _,_=>none
 | .s2b,[.str a]=>if m.full then none else if a.size≤maxLen then some (.slice m.n 0 a.size none 1,m.push (.cells (bytesAV a) false)) else none
 | .copy sz,[x,y]=>match lenV y with
  | some n=>match x with
   | .nils=>some (.int .i64 0,m)
   | .slice b o d _ _=>if min n d=0 then some (.int .i64 0,m) else
    match elemsM m (truncV y (min n d)) sz,m.get b with
    | some (_,cs),some (.cells e true)=>
     if cs.all AV.one&&decide (o+cs.length≤e.length)&&!cs.isEmpty then some (.int .i64 (min n d:Nat),m.set b (.cells (splice e o cs) true)) else none
    | _,_=>none
   | _=>none
  | none=>none
 | .rngS,[.str a]=>if m.full then none else some (.ptr m.n 0,m.push (.siter a 0))
 | .nxtS,[.ptr b o]=>if o=0 then (match m.get b with
  | some (.siter a p)=>
   if p < a.size then
    let q:=Utf8.decode a p
    some (.tup [.bool true,.int .i64 p,.int .i32 q.1],m.set b (.siter a (p+q.2)))
   else some (.tup [.bool false],m)
  | _=>none) else none
 | .ustr _,[.nilp,.int _ n]=>if n=0 then some (.str .empty,m) else none
 | .ustr u,[.ptr b o,.int .i64 n]=>
  if 0≤n∧n≤2 ^ 62 then
  if n=0 then some (.str .empty,m) else
  match m.get b with
  | some (.cells c true)=>if (m.tyOf b).map (·.1)=some u then
    match cellsAt c o n.toNat with
    | some l=>match bytesOf l with
     | some s=>some (.str ⟨s.toArray⟩,m.set b (.cells c false))
     | none=>none
    | none=>none
   else none
  | _=>none
  else none
 | .upU,[.nilp]=>some (.nilp,m)
 | .upU,[.ptr b o]=>match m.get b with
  | some (.cells c _)=>if o < c.length then some (.ptr b o,m) else none
  | _=>none
 | .upF _,[.nilp]=>some (.nilp,m)
 | .upF tbl,[.ptr b o]=>match m.get b,m.tyOf b with
  | some (.cells c true),some (e,true)=>if o=0∧tbl.any (fun p=>p.1 == e&&decide (p.2≤c.length))=true then some (.ptr b o,m) else none
  | _,_=>none
 | .mkz ty,[.int .i64 n]=>if 0≤n∧n≤2 ^ 40 then (if m.full then none else
   some (.slice m.n 0 n.toNat none 1,(m.push (.cells (List.replicate n.toNat .unk) true)).noteO m.n ty)) else none
 | .allocT t z,[]=>if m.full then none else some (.ptr m.n 0,(m.push (.cells z true)).note m.n t true)
 | .mkmap,[]=>if m.full then none else some (.map m.n,m.push (.map [] 0))
 | .mlk k z ok,[x,i]=>
  let r (q:Option (Option (Nat×AV))):Option (AV×Mem):=match q with
   | some (some (_,v))=>some (if ok then .tup [v,.bool true] else v,m)
   | some none=>some (if ok then .tup [z,.bool false] else z,m)
   | none=>none
  match x with
  | .nilm=>r (some none)
  | .map b=>match m.get b with
   | some (.map es _)=>r (findK k i es 0)
   | _=>none
  | _=>none
 | .mup k,[.map b,i,v]=>match m.get b with
  | some (.map es c)=>match findK k i es 0 with
   | some (some (j,_))=>some (.unk,m.set b (.map (setE es j i v) c))
   | some none=>(match keyEq k i i with
    | some true=>some (.unk,m.set b (.map (es++[(i,v,c)]) (c+1)))
    | _=>none)
   | none=>none
  | _=>none
 | .mlk2 z ok,[.map b,i]=>match keyEq2 i i with
  | some true=>match m.get b with
   | some (.map es _)=>match findA i es 0 with
    | some (some (_,v))=>some (if ok then .tup [v,.bool true] else v,m)
    | some none=>some (if ok then .tup [z,.bool false] else z,m)
    | none=>none
   | _=>none
  | _=>none
 | .mup2,[.map b,i,v]=>match m.get b with
  | some (.map es c)=>match keyEq2 i i with
   | some true=>match findA i es 0 with
    | some (some (j,_))=>some (.unk,m.set b (.map (setE es j i v) c))
    | some none=>some (.unk,m.set b (.map (es++[(i,v,c)]) (c+1)))
    | none=>none
   | _=>none
  | _=>none
 | .lenM,[.nilm]=>some (.int .i64 0,m)
 | .lenM,[.map b]=>match m.get b with
  | some (.map es _)=>some (.int .i64 es.length,m)
  | _=>none
 | .mark,[.slice b o n c e]=>match m.get b with
  | some (.cells cs true)=>some (.slice b o n c e,m.set b (.cells cs false))
  | _=>none
 | .sclr _ _,[.nils]=>some (.tup [],m)
 | .sclr sz z,[.slice b o n _ _]=>if n=0 then some (.tup [],m) else match m.get b with
  | some (.cells c true)=>if (zerosEv z (n*sz)).all AV.one&&decide (o+(zerosEv z (n*sz)).length≤c.length)&&!(zerosEv z (n*sz)).isEmpty then some (.tup [],m.set b (.cells (splice c o (zerosEv z (n*sz))) true)) else none
  | _=>none
 | .mclr,[.nilm]=>some (.tup [],m)
 | .mclr,[.map b]=>match m.get b with
  | some (.map _ c)=>some (.tup [],m.set b (.map [] c))
  | _=>none
 | _,_=>none
def callWith (call:Caller) (f:Nat) (args:List AV) (s:St):Option (AV×St):=
 if args.any AV.isLoc then none else
 match call f args s.m with
 | some (v,m)=>some (v,{ s with m })
 | none=>none
def opEv (call:Caller) (o:AOp) (s:St):Option (AV×St):=
 match o with
 | .mov x=>some (s.opd x,s)
 | .pick c a b=>match s.opd c with
  | .bool t=>some (if t then s.opd a else s.opd b,s)
  | _=>none
 | .alloc p z=>s.new p z
 | .box p x=>match (s.opd x).cells? with
  | some cs=>s.new p cs
  | none=>none
 | .build z parts=>match fillEv z (parts.map fun (o,k,x)=>(o,k,s.opd x)) with
  | some c=>some (.agg c,s)
  | none=>none
 | .mkslc sz len z parts=>
  if len*sz≤2 ^ 24 then
   match fillEv (zerosEv z (len*sz)) (parts.map fun (i,x)=>(i*sz,sz,s.opd x)) with
   | some c=>if s.m.full then none else some (.slice s.m.n 0 len (some len) sz,{ s with m:=s.m.push (.cells c true) })
   | none=>none
  else none
 | .load none x=>match s.read (s.opd x) 1 with
  | some [v]=>some (v,s)
  | _=>none
 | .load (some k) x=>match s.read (s.opd x) k with
  | some l=>some (.agg l,s)
  | none=>none
 | .store k x v=>match (s.opd v).cells? with
  | some vs=>if vs.length=k then (match s.write (s.opd x) vs with
   | some s'=>some (.unk,s')
   | none=>none) else none
  | none=>none
 | .nilck x=>match s.opd x with
  | .unk | .nilp | .nili | .nilf=>none
  | v=>some (v,s)
 | .bin op x y=>(binEv op (s.opd x) (s.opd y)).map fun v=>(v,s)
 | .eq neg k x y=>(eqEv k (s.opd x) (s.opd y)).map fun b=>(.bool (if neg then !b else b),s)
 | .un op x=>(unEv op (s.opd x)).map fun v=>(v,s)
 | .conv k x=>match s.opd x with
  | .int _ n=>some (.int k (k.wrap n),s)
  | _=>none
 | .b2s _=>none
 | .mkfn f cs=>if (cs.map s.opd).any AV.isLoc then none else some (.fn f (cs.map s.opd),s)
 | .make sz bytes z l c=>match s.opd l,s.opd c with
  | .int _ l,.int _ c=>
   if 0≤l∧l≤c∧c≤2 ^ 40∧bytes*c≤2 ^ 47 then
    if s.m.full then none else
    some (.slice s.m.n 0 l.toNat (some c.toNat) sz,{ s with m:=s.m.push (.cells (zerosEv z (c.toNat*sz)) true) })
   else none
  | _,_=>none
 | .slcS x lo hi=>match s.opd x with
  | .str a=>match bndsEv a.size a.size (lo.map s.opd) (hi.map s.opd) none with
   | some (l,h,_)=>some (.str (a.extract l h),s)
   | none=>none
  | _=>none
 | .slcL sz x lo hi mx=>match s.opd x with
  | .nils=>match bndsEv 0 0 (lo.map s.opd) (hi.map s.opd) (mx.map s.opd) with
   | some _=>some (.nils,s)
   | none=>none
  | .slice b o n (some c) e=>match bndsEv n c (lo.map s.opd) (hi.map s.opd) (mx.map s.opd) with
   | some (l,h,m)=>some (.slice b (if m=l then o else o+l*sz) (h - l) (some (m - l)) e,s)
   | none=>none
  | .slice b o n none e=>match mx with
   | none=>match bndsEv n n (lo.map s.opd) (hi.map s.opd) none with
    | some (l,h,_)=>if l < n∧e=sz∧0 < sz then some (.slice b (o+l*sz) (h - l) none e,s) else none
    | none=>none
   | some mx=>match bndsEv n n (lo.map s.opd) (hi.map s.opd) (some (s.opd mx)) with
    | some (l,h,m)=>some (.slice b (if m=l then o else o+l*sz) (h - l) (some (m - l)) e,s)
    | none=>none
  | _=>none
 | .slcA n sz x lo hi mx=>match s.opd x with
  | .ptr b o=>match bndsEv n n (lo.map s.opd) (hi.map s.opd) (mx.map s.opd) with
   | some (l,h,m)=>if n≤maxLen then some (.slice b (if m=l then o else o+l*sz) (h - l) (some (m - l)) sz,s) else none
   | none=>none
  | _=>none
 | .faddr off x=>match s.opd x with
  | .ptr b o=>some (.ptr b (o+off),s)
  | .loc t o=>some (.loc t (o+off),s)
  | _=>none
 | .fld off k x=>match s.opd x with
  | .agg l=>match k with
   | none=>(l[off]?).map fun v=>(v,s)
   | some k=>if off+k≤l.length then some (.agg ((l.drop off).take k),s) else none
  | _=>none
 | .iaddrL sz x i=>match s.opd x,s.opd i with
  | .slice b o n _ _,.int _ i=>if 0≤i∧i < n then some (.ptr b (o+i.toNat*sz),s) else none
  | _,_=>none
 | .iaddrA n sz x i=>match s.opd x,s.opd i with
  | .ptr b o,.int _ i=>if 0≤i∧i < n then some (.ptr b (o+i.toNat*sz),s) else none
  | .loc t o,.int _ i=>if 0≤i∧i < n then some (.loc t (o+i.toNat*sz),s) else none
  | _,_=>none
 | .idxS x i=>match s.opd x,s.opd i with
  | .str a,.int _ i=>if 0≤i then (match a[i.toNat]? with
   | some c=>some (.int .u8 c.toNat,s)
   | none=>none) else none
  | _,_=>none
 | .idxA n sz agg x i=>match s.opd x,s.opd i with
  | .agg l,.int _ i=>if 0≤i∧i < n then (if agg then (if i.toNat*sz+sz≤l.length then some (.agg ((l.drop (i.toNat*sz)).take sz),s) else none) else (l[i.toNat*sz]?).map fun v=>(v,s)) else none
  | _,_=>none
 | .ext x i=>match s.opd x with
  | .tup l=>(l[i]?).map fun v=>(v,s)
  | _=>none
 | .call f args=>callWith call f (args.map s.opd) s
 | .callv f args=>match s.opd f with
  | .fn g cs=>callWith call g (args.map s.opd++cs) s
  | _=>none
 | .lenS x=>match s.opd x with
  | .str a=>some (.int .i64 a.size,s)
  | _=>none
 | .lenL x=>match s.opd x with
  | .nils=>some (.int .i64 0,s)
  | .slice _ _ n _ _=>some (.int .i64 n,s)
  | .es=>some (.int .i64 0,s)
  | _=>none
 | .app ty sz bytes x y=>appEv s ty sz bytes (s.opd x) (s.opd y)
 | .max l=>if (l.map s.opd).any AV.isLoc then none else match l.map s.opd with
  | []=>none
  | x::r=>(maxEv x r).map fun v=>(v,s)
 | .min l=>if (l.map s.opd).any AV.isLoc then none else match l.map s.opd with
  | []=>none
  | x::r=>(minEv x r).map fun v=>(v,s)
 | .copy _ _ _=>none
 | .xp k l=>if (l.map s.opd).any AV.isLoc then none else (xpEv k (l.map s.opd)).map fun v=>(v,s)
 | .xm k l=>callWith (fun _ args m=>xmEv k args m) 0 (l.map s.opd) s
 | .bad=>none
structure AOper where
 dst:Option Nat
 op:AOp
 guard:Option (Nat×Bool)
def St.put (s:St) (d:Option Nat) (v:AV):Option St:=
 match d with
 | none=>some s
 | some d=>if d < s.n then some { s with t:=setT s.t d v } else none
def guardEv (g:Option (Nat×Bool)) (s:St):Option Bool:=
 match g with
 | none=>some true
 | some (g,want)=>match look s.t g with
  | .bool b=>some (b == want)
  | .tup _=>some false
  | _=>none
def oneEv (call:Caller) (o:AOper) (s:St):Option St:=
 match guardEv o.guard s with
 | some true=>match opEv call o.op s with
  | some (v,s')=>s'.put o.dst v
  | none=>none
 | some false=>s.put o.dst (.tup [])
 | none=>none
def opsEv (call:Caller):List AOper→St→Option St
 | [],s=>some s
 | o::r,s=>match oneEv call o s with
  | some s'=>opsEv call r s'
  | none=>none
inductive Kd where
 | pure | read | newl | mem | store | newm
 deriving DecidableEq
def AOp.kd:AOp→Kd
 | .load _ _=>.read
 | .xm .b2s _=>.read
 | .xm (.mkz _) _=>.newm
 | .alloc (some _) _ | .box (some _) _=>.newl
 | .alloc none _ | .box none _ | .mkslc .. | .make ..=>.newm
 | .call .. | .callv .. | .app .. | .copy .. | .xm ..=>.mem
 | .store ..=>.store
 | _=>.pure
def AOp.lazy:AOp→Bool
 | .alloc none _ | .box none _ | .mkslc .. | .make ..=>true
 | _=>false
def newOf (o:AOp) (s:St):Option (List AV×(Nat→AV)):=
 match o with
 | .alloc none z=>some (z,fun n=>.ptr n 0)
 | .box none x=>match (s.opd x).cells? with
  | some cs=>some (cs,fun n=>.ptr n 0)
  | none=>none
 | .mkslc sz len z parts=>
  if len*sz≤2 ^ 24 then
   match fillEv (zerosEv z (len*sz)) (parts.map fun (i,x)=>(i*sz,sz,s.opd x)) with
   | some c=>some (c,fun n=>.slice n 0 len (some len) sz)
   | none=>none
  else none
 | .make sz bytes z l c=>match s.opd l,s.opd c with
  | .int _ l,.int _ c=>
   if 0≤l∧l≤c∧c≤2 ^ 40∧bytes*c≤2 ^ 47 then some (zerosEv z (c.toNat*sz),fun n=>.slice n 0 l.toNat (some c.toNat) sz) else none
  | _,_=>none
 | _=>none
def careEv (o:AOp) (s:St):Bool:=
 match o with
 | .load _ x=>match s.opd x with
  | .loc _ _=>true
  | _=>false
 | .alloc (some t) _ | .box (some t) _=>(match lookL s.l t with | none=>true | some _=>false)
 | .xm .b2s _=>false
 | _=>true
def dOneEv (call:Caller) (o:AOper×Bool) (s:St):Option St:=
 match guardEv o.1.guard s with
 | some true=>if o.2&&!careEv o.1.op s then none else match opEv call o.1.op s with
  | some (v,s')=>s'.put o.1.dst v
  | none=>none
 | some false=>s.put o.1.dst (.tup [])
 | none=>none
inductive Acc where
 | rw (x:AV) (k:Nat) (w:Bool)
 | eff (m m':Mem)
def accEv (o:AOp) (s:St):Option Acc:=
 match o with
 | .load none x=>some (.rw (s.opd x) 1 false)
 | .load (some k) x=>some (.rw (s.opd x) k false)
 | .store k x _=>some (.rw (s.opd x) k true)
 | .xm .b2s [x]=>match s.opd x with
  | .slice b o n _ _=>some (.rw (.ptr b o) n false)
  | _=>some (.rw .nilp 0 false)
 | _=>none
def accOf (g:Bool) (o:AOper) (s s':St):List Acc:=
 if g then (match guardEv o.guard s with
  | some true=>if o.op.kd=.mem then [.eff s.m s'.m] else (accEv o.op s).toList
  | _=>[]) else []
def eqL (e:AV→AV→Bool):List AV→List AV→Bool
 | [],[]=>true
 | x::r,y::q=>e x y&&eqL e r q
 | _,_=>false
def eqV:Nat→AV→AV→Bool
 | 0,_,_=>false
 | n+1,x,y=>match x,y with
  | .bool a,.bool b=>a == b
  | .int k a,.int k' b=>decide (k=k')&&a == b
  | .str a,.str b=>decide (a=b)
  | .nilp,.nilp | .nils,.nils | .es,.es | .nilm,.nilm | .nilf,.nilf | .nili,.nili=>true
  | .ptr a b,.ptr a' b'=>a == a'&&b == b'
  | .slice b o n c e,.slice b' o' n' c' e'=>b == b'&&o == o'&&n == n'&&decide (c=c')&&e == e'
  | .map b,.map b'=>b == b'
  | .fn f cs,.fn g ds=>f == g&&eqL (eqV n) cs ds
  | .agg l,.agg q | .tup l,.tup q=>eqL (eqV n) l q
  | .unk,.unk=>true
  | .loc a b,.loc a' b'=>a == a'&&b == b'
  | .iface t v,.iface t' v'=>t == t'&&eqV n v v'
  | _,_=>false
def sameRead (m m':Mem) (x:AV) (k:Nat):Bool:=
 match x with
 | .loc _ _=>true
 | .ptr b o=>match m.get b,m'.get b with
  | some (.cells c _),some (.cells c' _)=>match cellsAt c o k,cellsAt c' o k with
   | some l,some l'=>eqL (eqV 4) l l'
   | _,_=>false
  | _,_=>false
 | _=>false
def disj (x:AV) (k:Nat) (y:AV) (k':Nat):Bool:=
 match x,y with
 | .loc t o,.loc t' o'=>t != t'||decide (o+k≤o')||decide (o'+k'≤o)
 | .ptr b o,.ptr b' o'=>(if b=b' then decide (o+k≤o')||decide (o'+k'≤o) else decide (b < 2 ^ depth)&&decide (b' < 2 ^ depth))
 | .loc _ _,.ptr _ _=>true
 | .ptr _ _,.loc _ _=>true
 | _,_=>false
def accFit:Acc→Acc→Bool
 | .rw x k b,.rw y k' b'=>b == b'||disj x k y k'
 | .rw x k false,.eff m m'=>sameRead m m' x k
 | .eff m m',.rw x k false=>sameRead m m' x k
 | _,_=>true
def logOk (l:List Acc):Bool:=l.all fun a=>l.all fun b=>accFit a b
def dOpsEv (call:Caller):List (Bool×AOper×Bool)→St→Option (St×List Acc)
 | [],s=>some (s,[])
 | o::r,s=>match dOneEv call o.2 s with
  | some s'=>match dOpsEv call r s' with
   | some (s2,log)=>some (s2,accOf o.1 o.2.1 s s'++log)
   | none=>none
  | none=>none
def Opd.ts:Opd→List Nat
 | .tmp t=>[t]
 | .val _=>[]
def Opd.ots:Option Opd→List Nat
 | none=>[]
 | some x=>x.ts
def AOp.ts:AOp→List Nat
 | .mov x | .box _ x | .load _ x | .nilck x | .un _ x | .conv _ x | .b2s x | .faddr _ x | .fld _ _ x | .ext x _ | .lenS x | .lenL x=>x.ts
 | .pick c a b=>c.ts++(a.ts++b.ts)
 | .alloc _ _ | .bad=>[]
 | .build _ ps=>ps.flatMap fun p=>p.2.2.ts
 | .mkslc _ _ _ ps=>ps.flatMap fun p=>p.2.ts
 | .store _ x v=>x.ts++v.ts
 | .bin _ x y | .eq _ _ x y | .app _ _ _ x y | .copy _ x y | .iaddrL _ x y | .iaddrA _ _ x y | .idxS x y | .idxA _ _ _ x y | .make _ _ _ x y=>x.ts++y.ts
 | .mkfn _ l | .call _ l | .max l | .min l | .xp _ l | .xm _ l=>l.flatMap Opd.ts
 | .callv f l=>f.ts++l.flatMap Opd.ts
 | .slcS x lo hi=>x.ts++(Opd.ots lo++Opd.ots hi)
 | .slcL _ x lo hi mx | .slcA _ _ x lo hi mx=>x.ts++(Opd.ots lo++(Opd.ots hi++Opd.ots mx))
def AOper.ts (o:AOper):List Nat:=(match o.guard with | some (g,_)=>[g] | none=>[])++o.op.ts
def kdPair (j i:Kd) (fj fi:Bool):Bool:=
 match j,i with
 | .pure,_ | _,.pure=>true
 | .read,.read | .read,.newl | .newl,.newl | .newl,.mem | .mem,.newl | .read,.newm | .newl,.newm | .newm,.newl=>true
 | .read,.mem=>fj
 | .mem,.read=>fi
 | _,_=>false
def apartO (d:Option Nat) (l:List Nat) (e:Option Nat):Bool:=
 match d with
 | none=>true
 | some d=>!l.contains d&&(match e with | some e=>e != d | none=>true)
def rsPair (j i:Kd):Bool:=
 match j,i with
 | .read,.store | .store,.read | .read,.mem | .mem,.read=>true
 | _,_=>false
def pairOk (j i:Bool×AOper×Bool):Bool:=
 (kdPair j.2.1.op.kd i.2.1.op.kd j.2.2 i.2.2||(j.1&&i.1&&rsPair j.2.1.op.kd i.2.1.op.kd))&&apartO j.2.1.dst i.2.1.ts i.2.1.dst&&apartO i.2.1.dst j.2.1.ts j.2.1.dst
def depsOf (o:Oper):List Nat:=(o.after.toList.filter (Region.binds .any ·)).map (·.on)
def readyIn (done:List Nat):List Nat→Bool
 | []=>true
 | d::r=>done.contains d&&readyIn done r
def firstOf (late:Nat→Bool) (done:List Nat):List (Nat×List Nat)→Option (Nat×List (Nat×List Nat))
 | []=>none
 | (i,ds)::r=>if !late i&&readyIn done ds then some (i,r) else match firstOf late done r with
  | some (k,r')=>some (k,(i,ds)::r')
  | none=>none
def topo (late:Nat→Bool):Nat→List (Nat×List Nat)→List Nat→List Nat
 | 0,_,_=>[]
 | n+1,rest,done=>match firstOf late done rest with
  | some (i,r)=>i::topo late n r (i::done)
  | none=>match firstOf (fun _=>false) done rest with
   | some (i,r)=>i::topo late n r (i::done)
   | none=>[]
def lkM:List (Nat×Nat)→Nat→Nat
 | [],_=>0
 | (i,m)::r,k=>if i=k then m else lkM r k
def maskOf (acc:List (Nat×Nat)):List Nat→Nat
 | []=>0
 | d::r=>(lkM acc d ||| 1 <<< d) ||| maskOf acc r
def masks (ops:List Oper):List Nat→List (Nat×Nat)→List (Nat×Nat)
 | [],acc=>acc
 | i::r,acc=>match ops[i]? with
  | some o=>masks ops r ((i,maskOf acc (depsOf o))::acc)
  | none=>masks ops r acc
def loose (ms:List (Nat×Nat)) (i:Nat) (k:Kd):Nat→List AOper→Bool
 | _,[]=>false
 | j,o::r=>(o.op.kd == k&&j != i&&!(lkM ms i).testBit j&&!(lkM ms j).testBit i)||loose ms i k (j+1) r
def flagged (l:List AOper) (ms:List (Nat×Nat)):List Nat→List (Nat×Bool×AOper×Bool)
 | []=>[]
 | i::r=>match l[i]? with
  | some o=>(i,(match o.op.kd with
   | .read=>loose ms i .store 0 l||loose ms i .mem 0 l
   | .store | .mem=>loose ms i .read 0 l
   | _=>false),o,match o.op.kd with
   | .newl=>true
   | _=>false)::flagged l ms r
  | none=>flagged l ms r
def lazyOk (ms:List (Nat×Nat)) (x y:Nat×Bool×AOper×Bool):Bool:=
 y.2.2.1.op.lazy&&apartO x.2.2.1.dst y.2.2.1.ts y.2.2.1.dst&&apartO y.2.2.1.dst x.2.2.1.ts x.2.2.1.dst&&ms.all fun p=>!p.2.testBit y.1||p.2.testBit x.1
def pairsWith (ops:List Oper) (ms:List (Nat×Nat)) (x:Nat×Bool×AOper×Bool):List (Nat×Bool×AOper×Bool)→Bool
 | []=>true
 | y::r=>(x.1 != y.1&&(match ops[x.1]? with | some o=>!(depsOf o).contains y.1 | none=>false)&&!(lkM ms x.1).testBit y.1&&((lkM ms y.1).testBit x.1||pairOk x.2 y.2||lazyOk ms x y))&&pairsWith ops ms x r
def pairsAll (ops:List Oper) (ms:List (Nat×Nat)):List (Nat×Bool×AOper×Bool)→Bool
 | []=>true
 | x::r=>pairsWith ops ms x r&&pairsAll ops ms r
def selfOk (n:Nat):Nat→List Oper→Bool
 | _,[]=>true
 | i,o::r=>(depsOf o).all (fun d=>d != i&&decide (d < n))&&selfOk n (i+1) r
def flagOkB (o:AOper×Bool):Bool:=
 match o.1.op.kd with
 | .newl=>o.2
 | .read=>true
 | .newm=>!o.2&&apartO o.1.dst o.1.ts none
 | _=>!o.2
def zipDeps:Nat→List Oper→List (Nat×List Nat)
 | _,[]=>[]
 | i,o::r=>(i,depsOf o)::zipDeps (i+1) r
def drawOf (ops:List Oper) (l:List AOper):Option (List (Nat×Bool×AOper×Bool)):=
 let ord:=topo (fun i=>match l[i]? with | some o=>o.op.kd == .newm | none=>false) ops.length (zipDeps 0 ops) []
 let ms:=masks ops ord []
 let el:=flagged l ms ord
 if (List.range ops.length).all (fun i=>(el.map (·.1)).contains i)&&selfOk ops.length 0 ops&&el.all (fun o=>flagOkB o.2.2)&&pairsAll ops ms el then some el else none
inductive AC where
 | skip
 | reg (l:List AOper)
 | dreg (l:List (Bool×AOper×Bool))
 | seq (a b:AC)
 | cond (c:Opd) (a b:AC)
 | block (id:Nat) (a:AC)
 | loop (a:AC)
 | exit (id:Nat)
 | ret
 | keep (ts ls:List Nat) (a:AC)
 | bad
inductive Ex where
 | norm
 | exit (id:Nat)
 | ret
def AV.locIn (ls:List Nat):AV→Bool
 | .loc t _=>ls.contains t
 | _=>true
def keepT (ts ls:List Nat) (l:List (Nat×AV)):List (Nat×AV):=
 ts.map fun u=>(u,if (look l u).locIn ls then look l u else .unk)
def keepL (l:List (Nat×List AV)):List Nat→List (Nat×List AV)
 | []=>[]
 | t::r=>match lookL l t with
  | some c=>(t,c)::keepL l r
  | none=>keepL l r
def codeEv (call:Caller) (again:AC→St→Option (Ex×St)):AC→St→Option (Ex×St)
 | .skip,s=>some (.norm,s)
 | .reg l,s=>match opsEv call l s with
  | some s'=>some (.norm,s')
  | none=>none
 | .dreg l,s=>match dOpsEv call l s with
  | some (s',log)=>if logOk log then some (.norm,s') else none
  | none=>none
 | .seq a b,s=>match codeEv call again a s with
  | some (.norm,s')=>codeEv call again b s'
  | r=>r
 | .cond c a b,s=>match s.opd c with
  | .bool t=>if t then codeEv call again a s else codeEv call again b s
  | _=>none
 | .block id a,s=>match codeEv call again a s with
  | some (.exit id',s')=>if id'=id then some (.norm,s') else some (.exit id',s')
  | r=>r
 | .loop a,s=>match codeEv call again a s with
  | some (.norm,s')=>again (.loop a) s'
  | r=>r
 | .exit id,s=>some (.exit id,s)
 | .ret,s=>some (.ret,s)
 | .keep ts ls a,s=>codeEv call again a { s with t:=keepT ts ls s.t,l:=keepL s.l ls }
 | .bad,_=>none
inductive ARes where
 | tmp (t:Nat)
 | cell (t:Nat) (k:Option Nat)
structure AFn where
 n:Nat
 np:Nat
 res:List ARes
 body:AC
 prim:Option (Caller→List AV→Mem→Option (AV×Mem)):=none
def primFn (p:Caller→List AV→Mem→Option (AV×Mem)):AFn:={ n:=0,np:=0,res:=[],body:=.bad,prim:=some p }
def resEv (s:St):List ARes→Option (List AV)
 | []=>some []
 | .tmp t::r=>match resEv s r with
  | some l=>some (look s.t t::l)
  | none=>none
 | .cell t none::r=>match s.read (look s.t t) 1,resEv s r with
  | some [v],some l=>some (v::l)
  | _,_=>none
 | .cell t (some k)::r=>match s.read (look s.t t) k,resEv s r with
  | some c,some l=>some (.agg c::l)
  | _,_=>none
def argsT:Nat→List AV→List (Nat×AV)
 | _,[]=>[]
 | i,v::r=>(i,v)::argsT (i+1) r
def fnEv (call:Caller) (again:AC→St→Option (Ex×St)) (f:AFn) (args:List AV) (m:Mem):Option (AV×Mem):=
 match f.prim with
 | some p=>p call args m
 | none=>
 if args.length=f.np then
  match codeEv call again f.body { n:=f.n,t:=argsT 0 args,l:=[],m } with
  | some (.norm,s) | some (.ret,s)=>match resEv s f.res with
   | some [v]=>if v.isLoc then none else some (v,s.m)
   | some l=>if l.any AV.isLoc then none else some (.tup l,s.m)
   | none=>none
  | _=>none
 else none
def ev (A:Nat→Option AFn):Nat→Caller×(AC→St→Option (Ex×St)):=
 Nat.rec (fun _ _ _=>none,fun _ _=>none) fun _ ih=>
  (fun f args m=>match A f with
   | some fn=>fnEv ih.1 ih.2 fn args m
   | none=>none,
   fun c s=>codeEv ih.1 ih.2 c s)
def run (A:Nat→Option AFn) (n:Nat):Caller:=(ev A n).1
structure Hints where
 promo:List Nat
 keep:List (Nat×List Nat×List Nat)
 typed:List Nat:=[]
def opd (P:Program):Operand→Option Opd
 | .tmp t=>some (.tmp t)
 | .const v=>some (.val (cAV v))
 | .global g=>if g < P.globals.size then some (.val (.ptr g 0)) else none
 | .func f=>some (.val (.fn f []))
def opds (P:Program) (l:List Operand):Option (List Opd):=
 match l with
 | []=>some []
 | x::r=>match opd P x,opds P r with
  | some y,some r'=>some (y::r')
  | _,_=>none
def oopd (P:Program):Option Operand→Option (Option Opd)
 | none=>some none
 | some x=>(opd P x).map some
def aggq (P:Program) (t:TypeId):Option Bool:=
 match P.underlying t with
 | some (.struct _) | some (.array _ _)=>some true
 | some _=>some false
 | none=>none
def szOf (P:Program) (t:TypeId):Option Nat:=(P.info? t).map (·.size)
def zeroOf (P:Program) (t:TypeId):Option (List AV):=
 match P.info? t with
 | some i=>match i.zero with
  | some z=>some (cAV.go z.cells.toList)
  | none=>none
 | none=>none
def flatOffs (P:Program):List Field→Option (List (Nat×Nat))
 | []=>some []
 | f::r=>if f.name= "_" then none else
  match P.underlying f.type,flatOffs P r with
  | some (.int _),some l=>some ((f.offset,0)::l)
  | some .bool,some l=>some ((f.offset,1)::l)
  | some .string,some l=>some ((f.offset,2)::l)
  | _,_=>none
def isK:Operand→Bool
 | .const _=>true
 | _=>false
def eqKind (P:Program) (t:TypeId) (x y:Operand):Option EqK:=
 match P.underlying t with
 | some (.interface _)=>some (.nilI (isK x||isK y))
 | some (.pointer e)=>match P.info? e with
  | some i=>if i.size=0 then none else some .ptr
  | none=>none
 | some .bool=>some .bool
 | some (.slice _)=>some .nilS
 | some (.map _ _)=>some .nilM
 | some (.func _ _ _)=>some .nilF
 | some (.struct fs)=>if P.stoodInHeld t||P.eqGuardType P.depth t then none else (flatOffs P fs.toList).map .agg
 | some (.array n e)=>match P.underlying e,P.info? e with
  | some (.int _),some _=>if P.eqGuardType P.depth t then none else some (.agg ((List.range n).map fun i=>(i*P.cellsOf e,0)))
  | _,_=>none
 | _=>none
def parts3 (P:Program) (fields:List (Nat×Nat)):List (Nat×Operand)→Option (List (Nat×Nat×Opd))
 | []=>some []
 | (i,x)::r=>match fields[i]?,opd P x,parts3 P fields r with
  | some (o,k),some y,some r'=>some ((o,k,y)::r')
  | _,_,_=>none
def parts2 (P:Program):List (Nat×Operand)→Option (List (Nat×Opd))
 | []=>some []
 | (i,x)::r=>match opd P x,parts2 P r with
  | some y,some r'=>some ((i,y)::r')
  | _,_=>none
def fieldsOf (P:Program):List Field→Option (List (Nat×Nat))
 | []=>some []
 | f::r=>match szOf P f.type,fieldsOf P r with
  | some k,some l=>some ((f.offset,k)::l)
  | _,_=>none
def noInt:TypeDesc→Bool
 | .slice _=>true
 | .string=>true
 | _=>false
def byteTy (P:Program) (e:TypeId):Option Nat:=
 match P.underlying e with
 | some (.int .u8)=>some e
 | _=>none
def isByte (P:Program) (e:TypeId):Bool:=
 match P.underlying e with
 | some (.int .u8)=>true
 | _=>false
def keyK (P:Program) (t:TypeId):Option KeyK:=
 match P.underlying t with
 | some (.int _)=>some .int
 | some .string=>some .str
 | _=>none
def key2 (P:Program) (t:TypeId):Bool:=
 match P.underlying t with
 | some (.array 2 e)=>match P.underlying e,P.info? e with
  | some (.int _),some i=>i.size == 1
  | _,_=>false
 | _=>false
def promoOf (H:Hints):Option Nat→Option Nat
 | some d=>if H.promo.contains d then some d else none
 | none=>none
def trOp (P:Program) (H:Hints) (dst:Option Nat) (op:Op):Option AOp:=
 match op with
 | .move x | .assign x=>(opd P x).map .mov
 | .pick c a b=>match opd P c,opd P a,opd P b with
  | some c,some a,some b=>some (.pick c a b)
  | _,_,_=>none
 | .alloc t=>match dst with
  | some d=>if H.typed.contains d then none else (zeroOf P t).map (.alloc (promoOf H dst))
  | none=>(zeroOf P t).map (.alloc (promoOf H dst))
 | .box _ x=>(opd P x).map (.box (promoOf H dst))
 | .build t ps=>match P.underlying t,zeroOf P t with
  | some (.struct fs),some z=>match fieldsOf P fs.toList with
   | some l=>(parts3 P l ps.toList).map (.build z)
   | none=>none
  | some (.array _ e),some z=>match szOf P e,parts2 P ps.toList with
   | some sz,some qs=>some (.build z (qs.map fun (i,x)=>(i*sz,sz,x)))
   | _,_=>none
  | _,_=>none
 | .buildSlice t len ps=>match P.underlying t with
  | some (.slice e)=>match szOf P e,zeroOf P e,parts2 P ps.toList with
   | some sz,some z,some ps=>if z.length=sz∧0 < sz then some (.mkslc sz len z ps) else none
   | _,_,_=>none
  | _=>none
 | .load t a=>match aggq P t,szOf P t,opd P a with
  | some true,some k,some a=>some (.load (some k) a)
  | some false,some _,some a=>some (.load none a)
  | _,_,_=>none
 | .store t a v=>match szOf P t,opd P a,opd P v with
  | some k,some a,some v=>some (.store k a v)
  | _,_,_=>none
 | .nilCheck x=>(opd P x).map .nilck
 | .binOp op t x0 y0 _=>match opd P x0,opd P y0 with
  | some x,some y=>match op,eqKind P t x0 y0 with
   | .eql,some k=>some (.eq false k x y)
   | .neq,some k=>some (.eq true k x y)
   | _,_=>match P.underlying t with
    | some (.int _) | some .string=>some (.bin op x y)
    | _=>none
  | _,_=>none
 | .unOp op _ x=>(opd P x).map (.un op)
 | .convert src dst x=>match P.underlying src,P.underlying dst,opd P x with
  | some (.int _),some (.int k),some x=>some (.conv k x)
  | some (.slice e),some .string,some x=>if isByte P e=true∧src≠dst then none else none
  | some .string,some (.slice e),some x=>if isByte P e=true∧src≠dst then none else none
  | some .string,some .string,some x=>none
  | some (.slice _),some (.slice e),some x=>if isByte P e=true∧src=dst then none else none
  | some (.pointer t),some .unsafePointer,some x=>match szOf P t with
   | some k=>if k=0 then none else none
   | none=>none
  | some .unsafePointer,some (.pointer u),some x=>match szOf P u with
   | some k=>if k=0 then none else none
   | none=>none
  | _,_,_=>none
 | .makeInterface t x=>match P.underlying t with
  | some (.interface _)=>none
  | some _=>none
  | none=>none
 | .typeAssert x _ t ok=>match P.underlying t with
  | some (.interface _)=>none
  | some _=>match P.info? t with
   | some i=>match i.zero with
    | some z=>none
    | none=>none
   | none=>none
  | none=>none
 | .range t x=>match P.underlying t with
  | some .string=>none
  | _=>none
 | .next x true=>none
 | .makeMap _ none=>(some (.xm .mkmap []))
 | .makeMap t (some (.const (.int _ _)))=>match P.underlying t with
  | some (.map _ _)=>some (.xm .mkmap [])
  | _=>none
 | .lookup t x i ok=>match P.underlying t with
  | some (.map k e)=>match keyK P k,P.info? e with
   | some kk,some i'=>match i'.zero,opd P x,opd P i with
    | some z,some x,some i=>some (.xm (.mlk kk (cAV z) ok) [x,i])
    | _,_,_=>none
   | none,some i'=>if key2 P k then (match i'.zero,opd P x,opd P i with
    | some z,some x,some i=>some (.xm (.mlk2 (cAV z) ok) [x,i])
    | _,_,_=>none) else none
   | _,_=>none
  | _=>none
 | .mapUpdate t m k x | .insert t m k x=>match P.underlying t with
  | some (.map kt _)=>match keyK P kt,opd P m,opd P k,opd P x with
   | some kk,some m,some k,some x=>some (.xm (.mup kk) [m,k,x])
   | none,some m,some k,some x=>if key2 P kt then some (.xm .mup2 [m,k,x]) else none
   | _,_,_,_=>none
  | _=>none
 | .makeFunc (.func f) ⟨[]⟩ cs=>(opds P cs.toList).map (.mkfn f)
 | .makeSlice t l c=>match P.underlying t with
  | some (.slice e)=>match P.info? e,zeroOf P e,opd P l,opd P c with
   | some i,some z,some l,some c=>if z.length=i.size∧0 < i.size then some (.make i.size i.bytes z l c) else none
   | _,_,_,_=>none
  | _=>none
 | .slice t x lo hi mx=>match opd P x,oopd P lo,oopd P hi,oopd P mx with
  | some x,some lo,some hi,some mx=>match P.underlying t with
   | some .string=>match mx with
    | none=>some (.slcS x lo hi)
    | some _=>none
   | some (.slice e)=>(szOf P e).map fun sz=>.slcL sz x lo hi mx
   | some (.array n e)=>(szOf P e).map fun sz=>.slcA n sz x lo hi mx
   | _=>none
  | _,_,_,_=>none
 | .fieldAddr s x f=>match P.underlying s,opd P x with
  | some (.struct fs),some x=>match fs[f]? with
   | some fd=>match szOf P fd.type with
    | some k=>if k=0 then none else some (.faddr fd.offset x)
    | none=>none
   | none=>none
  | _,_=>none
 | .field s x f=>match P.underlying s,opd P x with
  | some (.struct fs),some x=>match fs[f]? with
   | some fd=>match aggq P fd.type,szOf P fd.type with
    | some true,some k=>some (.fld fd.offset (some k) x)
    | some false,some _=>some (.fld fd.offset none x)
    | _,_=>none
   | none=>none
  | _,_=>none
 | .indexAddr t x i=>match P.underlying t,opd P x,opd P i with
  | some (.slice e),some x,some i=>(szOf P e).map fun sz=>.iaddrL sz x i
  | some (.array n e),some x,some i=>(szOf P e).map fun sz=>.iaddrA n sz x i
  | _,_,_=>none
 | .index t x i=>match P.underlying t,opd P x,opd P i with
  | some .string,some x,some i=>some (.idxS x i)
  | some (.array n e),some x,some i=>match aggq P e,szOf P e with
   | some g,some sz=>some (.idxA n sz g x i)
   | _,_=>none
  | _,_,_=>none
 | .extract x i=>(opd P x).map fun x=>.ext x i
 | .call { callee:=.value (.func f),args,.. }=>match P.funcs[f]? with
  | some fn=>match fn.body with
   | some _=>(opds P args.toList).map (.call f)
   | none=>if fn.origin=fn.name∨fn.origin= "" then
     if fn.name= "internal/abi.NoEscape" then (match opds P args.toList with
      | some [x]=>some (.mov x)
      | _=>none)
     else if fn.name= "internal/bytealg.MakeNoZero" then (match fn.resultTypes.toList with
      | [t]=>match P.underlying t with
       | some (.slice e)=>if isByte P e=true then (match opds P args.toList with
        | some [x]=>none
        | _=>none) else none
       | _=>none
      | _=>none)
     else none
    else none
  | none=>none
 | .call { callee:=.value (.tmp t),args,.. }=>(opds P args.toList).map (.callv (.tmp t))
 | .call { callee:=.builtin .len,args:=⟨[x]⟩,argTypes:=⟨[t]⟩ }=>match P.underlying t,opd P x with
  | some .string,some x=>some (.lenS x)
  | some (.slice _),some x=>some (.lenL x)
  | some (.map _ _),some x=>some (.xm .lenM [x])
  | _,_=>none
 | .call { callee:=.builtin .cap,args:=⟨[x]⟩,argTypes:=⟨[t]⟩ }=>match P.underlying t,opd P x with
  | some (.slice _),some x=>none
  | _,_=>none
 | .call { callee:=.builtin .clear,args:=⟨[x]⟩,argTypes:=⟨[t]⟩ }=>match P.underlying t,opd P x with
  | some (.map _ _),some x=>none
  | some (.slice e),some x=>match P.info? e,zeroOf P e with
   | some i,some z=>if z.length=i.size∧0 < i.size then none else none
   | _,_=>none
  | _,_=>none
 | .call { callee:=.builtin .copy,args:=⟨[x,y]⟩,argTypes:=⟨[t,_]⟩ }=>match P.underlying t,opd P x,opd P y with
  | some (.slice e),some x,some y=>match szOf P e with
   | some k=>if 0 < k then none else none
   | none=>none
  | _,_,_=>none
 | .call { callee:=.builtin .unsafeSliceData,args:=⟨[x]⟩,argTypes:=⟨[_]⟩ }=>none
 | .call { callee:=.builtin .unsafeString,args:=⟨[x,y]⟩,argTypes:=⟨[t,_]⟩ }=>match P.underlying t,opd P x,opd P y with
  | some (.pointer u),some x,some y=>if isByte P u=true∧P.cellsOf u=1 then none else none
  | _,_,_=>none
 | .call { callee:=.builtin .append,args:=⟨[x,y]⟩,argTypes:=⟨[t,t']⟩ }=>match P.underlying t,P.underlying t',opd P x,opd P y with
  | some (.slice e),some d,some x,some y=>match P.info? e,zeroOf P e with
   | some i,some z=>if z.length=i.size∧0 < i.size∧noInt d=true then some (.app (byteTy P e) i.size i.bytes x y) else none
   | _,_=>none
  | _,_,_,_=>none
 | .call { callee:=.builtin .max,args,.. }=>(opds P args.toList).map .max
 | .call { callee:=.builtin .min,args,.. }=>(opds P args.toList).map .min
 | _=>none
def trOper (P:Program) (H:Hints) (ops:Array Oper) (o:Oper):AOper:=
 match o.guard with
 | none=>{ dst:=o.dst,op:=(trOp P H o.dst o.op).getD .bad,guard:=none }
 | some (j,want)=>match (ops[j]?).bind (·.dst) with
  | some t=>{ dst:=o.dst,op:=(trOp P H o.dst o.op).getD .bad,guard:=some (t,want) }
  | none=>{ dst:=o.dst,op:=.bad,guard:=none }
def keepOf (H:Hints) (id:Nat) (a:AC):AC:=
 match H.keep.find? (·.1 == id) with
 | some (_,ts,ls)=>.keep ts ls a
 | none=>a
def trCode (P:Program) (H:Hints):Code→AC
 | .skip=>.skip
 | .region id ops false=>keepOf H id (.reg (ops.toList.map (trOper P H ops)))
 | .region id ops true=>match drawOf ops.toList (ops.toList.map (trOper P H ops)) with
  | some l=>if P.follows .mixedOrders then keepOf H id (.dreg (l.map (·.2))) else .bad
  | none=>.bad
 | .seq a b=>.seq (trCode P H a) (trCode P H b)
 | .cond c a b=>match opd P c with
  | some c=>.cond c (trCode P H a) (trCode P H b)
  | none=>.bad
 | .block id a=>.block id (trCode P H a)
 | .loop a=>.loop (trCode P H a)
 | .exit id=>.exit id
 | .ret=>.ret
 | .scope a=>trCode P H a
 | .label _=>.skip
 | _=>.bad
def trRes (P:Program):List ResultVar→Option (List ARes)
 | []=>some []
 | .tmp t::r=>(trRes P r).map (.tmp t::·)
 | .cell a t::r=>match aggq P t,szOf P t,trRes P r with
  | some true,some k,some l=>some (.cell a (some k)::l)
  | some false,some _,some l=>some (.cell a none::l)
  | _,_,_=>none
def trFn (P:Program) (H:Hints) (f:Func):Option AFn:=
 match f.body,trRes P f.results.toList with
 | some c,some res=>if f.name= "runtime.NumGoroutine"∨f.ntmps < f.params.size+f.nfree then none else
  some { n:=f.ntmps,np:=f.params.size+f.nfree,res,body:=trCode P H c }
 | _,_=>none
end
end AG
