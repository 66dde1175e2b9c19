/- The abstract machine, part 18: laws for values that are not known. -/
import Derived.Test.YtkmbepgofajfkaaDoorAgLaw
namespace AG
noncomputable section
open Go
def U (x:BitVec 32):AV:=.int .u32 (x.toNat:Int)
theorem ofInt_toNat (x:BitVec 32):BitVec.ofInt 32 (x.toNat:Int)=x:=by
 apply BitVec.eq_of_toNat_eq
 simp
theorem wrap_u32 (x:BitVec 32):IntKind.u32.wrap (x.toNat:Int)=(x.toNat:Int):=by
 have:=x.isLt
 simp only [IntKind.wrap,IntKind.bits]
 simp [IntKind.signed]
 omega
theorem bin_and (x y:BitVec 32):binEv .and (U x) (U y)=some (U (x &&& y)):=by
 simp only [U,binEv,if_true,intBin,IntKind.bits,ofInt_toNat,wrap_u32]; rfl
theorem bin_or (x y:BitVec 32):binEv .or (U x) (U y)=some (U (x ||| y)):=by
 simp only [U,binEv,if_true,intBin,IntKind.bits,ofInt_toNat,wrap_u32]; rfl
theorem bin_xor (x y:BitVec 32):binEv .xor (U x) (U y)=some (U (x ^^^ y)):=by
 simp only [U,binEv,if_true,intBin,IntKind.bits,ofInt_toNat,wrap_u32]; rfl
theorem bin_andNot (x y:BitVec 32):binEv .andNot (U x) (U y)=some (U (x &&& ~~~ y)):=by
 simp only [U,binEv,if_true,intBin,IntKind.bits,ofInt_toNat,wrap_u32]; rfl
theorem u_inj {x y:BitVec 32}:((x.toNat:Int)=(y.toNat:Int))↔x=y:=
 ⟨fun h=>BitVec.eq_of_toNat_eq (Int.ofNat_inj.1 h),fun h=>by rw [h]⟩
theorem bin_ueq (x y:BitVec 32):binEv .eql (U x) (U y)=some (.bool (decide (x=y))):=by
 simp only [U,binEv,if_true,intBin]
 congr 2
 rw [Bool.eq_iff_iff]
 simp only [beq_iff_eq,u_inj,decide_eq_true_eq]
theorem bin_une (x y:BitVec 32):binEv .neq (U x) (U y)=some (.bool (!decide (x=y))):=by
 simp only [U,binEv,if_true,intBin]
 congr 2
 rw [Bool.eq_iff_iff]
 simp only [bne_iff_ne,ne_eq,u_inj,Bool.not_eq_true',decide_eq_false_iff_not]
theorem bin_ult (x y:BitVec 32):binEv .lss (U x) (U y)=some (.bool (decide (x.toNat < y.toNat))):=by
 simp only [U,binEv,if_true,intBin]
 congr 2
 rw [Bool.eq_iff_iff]
 simp only [decide_eq_true_eq,Int.ofNat_lt]
theorem bin_ilt (x y:Int):binEv .lss (.int .i64 x) (.int .i64 y)=some (.bool (decide (x < y))):=by
 simp only [binEv,if_true,intBin]
theorem bin_ile (x y:Int):binEv .leq (.int .i64 x) (.int .i64 y)=some (.bool (decide (x≤y))):=by
 simp only [binEv,if_true,intBin]
theorem bin_igt (x y:Int):binEv .gtr (.int .i64 x) (.int .i64 y)=some (.bool (decide (y < x))):=by
 simp only [binEv,if_true,intBin,gt_iff_lt]
theorem bin_ige (x y:Int):binEv .geq (.int .i64 x) (.int .i64 y)=some (.bool (decide (y≤x))):=by
 simp only [binEv,if_true,intBin,ge_iff_le]
theorem bin_ieq (x y:Int):binEv .eql (.int .i64 x) (.int .i64 y)=some (.bool (decide (x=y))):=by
 simp only [binEv,if_true,intBin]
 congr 2
theorem bin_ine (x y:Int):binEv .neq (.int .i64 x) (.int .i64 y)=some (.bool (!decide (x=y))):=by
 simp only [binEv,if_true,intBin]
 congr 2
theorem u32_wrap (x:Int):IntKind.u32.wrap x=x % 2 ^ 32:=by
 simp only [IntKind.wrap,IntKind.bits]
 simp [IntKind.signed]
theorem bin_shl (x:BitVec 32) (k:IntKind) (b:Int) (h:0≤b):binEv .shl (U x) (.int k b)=some (U (x <<< b.toNat)):=by
 have hx:=x.isLt
 simp only [U,binEv]
 rw [if_neg (by omega)]
 congr 2
 obtain ⟨n,rfl⟩:=Int.eq_ofNat_of_zero_le h
 rw [u32_wrap,BitVec.toNat_shiftLeft,Nat.shiftLeft_eq]
 show (x.toNat:Int)*2 ^ (min n 32) % 2 ^ 32=_
 have c:((x.toNat:Int)*2 ^ (min n 32) % 2 ^ 32)=((x.toNat*2 ^ (min n 32) % 2 ^ 32:Nat):Int):=by simp
 rw [c]
 show _=((x.toNat*2 ^ n % 2 ^ 32:Nat):Int)
 congr 1
 by_cases hn:n≤32
 ·rw [Nat.min_eq_left hn]
 ·rw [Nat.min_eq_right (by omega)]
  have e:(2:Nat) ^ n=2 ^ 32*2 ^ (n - 32):=by rw [←Nat.pow_add]; congr 1; omega
  rw [e,←Nat.mul_assoc,Nat.mul_comm x.toNat,Nat.mul_assoc,Nat.mul_mod_right,Nat.mul_mod_right]
theorem bin_shr (x:BitVec 32) (k:IntKind) (b:Int) (h:0≤b):binEv .shr (U x) (.int k b)=some (U (x >>> b.toNat)):=by
 have hx:=x.isLt
 simp only [U,binEv]
 rw [if_neg (by omega)]
 congr 2
 obtain ⟨n,rfl⟩:=Int.eq_ofNat_of_zero_le h
 simp only [Int.toNat_natCast,IntKind.bits,BitVec.toNat_ushiftRight,Nat.shiftRight_eq_div_pow]
 have e:∀ j:Nat,((x.toNat:Int).fdiv (2 ^ j))=((x.toNat / 2 ^ j:Nat):Int):=by
  intro j
  rw [Int.fdiv_eq_ediv_of_nonneg _ (Int.le_of_lt (Int.pow_pos (by decide)))]
  simp
 rw [e]
 congr 1
 by_cases hn:n≤32
 ·rw [Nat.min_eq_left hn]
 ·rw [Nat.min_eq_right (by omega),Nat.div_eq_of_lt hx,Nat.div_eq_of_lt]
  exact Nat.lt_of_lt_of_le hx (Nat.pow_le_pow_right (by omega) (by omega))
theorem one_U (x:BitVec 32):AV.one (U x)=true:=rfl
theorem cells_U (x:BitVec 32):AV.cells? (U x)=some [U x]:=rfl
theorem loc_U (x:BitVec 32):AV.isLoc (U x)=false:=rfl
theorem one_int (k:IntKind) (x:Int):AV.one (.int k x)=true:=rfl
theorem loc_int (k:IntKind) (x:Int):AV.isLoc (.int k x)=false:=rfl
theorem cells_int (k:IntKind) (x:Int):AV.cells? (.int k x)=some [.int k x]:=rfl
theorem one_bool (b:Bool):AV.one (.bool b)=true:=rfl
theorem loc_bool (b:Bool):AV.isLoc (.bool b)=false:=rfl
theorem cells_bool (b:Bool):AV.cells? (.bool b)=some [.bool b]:=rfl
theorem one_str (x:ByteArray):AV.one (.str x)=true:=rfl
theorem loc_str (x:ByteArray):AV.isLoc (.str x)=false:=rfl
theorem cells_str (x:ByteArray):AV.cells? (.str x)=some [.str x]:=rfl
theorem one_ptr (b o:Nat):AV.one (.ptr b o)=true:=rfl
theorem loc_ptr (b o:Nat):AV.isLoc (.ptr b o)=false:=rfl
theorem cells_ptr (b o:Nat):AV.cells? (.ptr b o)=some [.ptr b o]:=rfl
theorem one_slice (b o n:Nat) (c:Option Nat) (e:Nat):AV.one (.slice b o n c e)=true:=rfl
theorem loc_slice (b o n:Nat) (c:Option Nat) (e:Nat):AV.isLoc (.slice b o n c e)=false:=rfl
theorem cells_slice (b o n:Nat) (c:Option Nat) (e:Nat):AV.cells? (.slice b o n c e)=some [.slice b o n c e]:=rfl
theorem one_nils :AV.one (.nils)=true:=rfl
theorem loc_nils :AV.isLoc (.nils)=false:=rfl
theorem cells_nils :AV.cells? (.nils)=some [.nils]:=rfl
theorem one_fn (f:Nat) (l:List AV):AV.one (.fn f l)=true:=rfl
theorem loc_fn (f:Nat) (l:List AV):AV.isLoc (.fn f l)=false:=rfl
theorem cells_fn (f:Nat) (l:List AV):AV.cells? (.fn f l)=some [.fn f l]:=rfl
theorem one_map (b:Nat):AV.one (.map b)=true:=rfl
theorem loc_map (b:Nat):AV.isLoc (.map b)=false:=rfl
theorem cells_map (b:Nat):AV.cells? (.map b)=some [.map b]:=rfl
theorem one_nilm :AV.one (.nilm)=true:=rfl
theorem loc_nilm :AV.isLoc (.nilm)=false:=rfl
theorem cells_nilm :AV.cells? (.nilm)=some [.nilm]:=rfl
theorem one_nilp :AV.one (.nilp)=true:=rfl
theorem loc_nilp :AV.isLoc (.nilp)=false:=rfl
theorem cells_nilp :AV.cells? (.nilp)=some [.nilp]:=rfl
theorem one_nilf :AV.one (.nilf)=true:=rfl
theorem loc_nilf :AV.isLoc (.nilf)=false:=rfl
theorem cells_nilf :AV.cells? (.nilf)=some [.nilf]:=rfl
theorem loc_agg (l:List AV):AV.isLoc (.agg l)=false:=rfl
theorem loc_tup (l:List AV):AV.isLoc (.tup l)=false:=rfl
theorem loc_unk:AV.isLoc .unk=false:=rfl
theorem cells_agg (l:List AV):AV.cells? (.agg l)=some l:=rfl
theorem cellsAt_cons (x:AV) (l:List AV) (o k:Nat):cellsAt (x::l) o k=if o+k≤(x::l).length then some (((x::l).drop o).take k) else none:=rfl
theorem cells_one {c:List AV} {j:Nat} {v:AV} (h:c[j]?=some v):cellsAt c j 1=some [v]:=by
 obtain ⟨hj,hv⟩:=List.getElem?_eq_some_iff.1 h
 unfold cellsAt
 rw [if_pos (by omega)]
 congr 1
 apply List.ext_getElem?
 intro i
 cases i with
 | zero=>simp [h]
 | succ i=>simp [List.getElem?_take]
theorem look_set (l:List (Nat×AV)) (t u:Nat) (v:AV):look (setT l t v) u=if t=u then v else look l u:=by
 by_cases h:t=u
 ·subst h; rw [look_setT_same,if_pos rfl]
 ·rw [look_setT_ne _ _ _ _ h,if_neg h]
theorem beq_tt:(true == true)=true:=rfl
theorem beq_tf:(true == false)=false:=rfl
theorem beq_ft:(false == true)=false:=rfl
theorem beq_ff:(false == false)=true:=rfl
theorem u_0:AV.int .u32 0=U 0#32:=rfl
theorem u_1:AV.int .u32 1=U 1#32:=rfl
theorem run_of {A:Nat→Option AFn} {f:Nat} {af:AFn} (h:A f=some af) (n:Nat) (args:List AV) (m:Mem):run A (n+1) f args m=fnEv (run A n) (ev A n).2 af args m:=by
 show (match A f with | some fn=>fnEv (ev A n).1 (ev A n).2 fn args m | none=>none)=_
 rw [h]; rfl
theorem again_of (A:Nat→Option AFn) (n:Nat) (c:AC) (s:St):(ev A (n+1)).2 c s=codeEv (run A n) (ev A n).2 c s:=rfl
theorem in_int (ls:List Nat) (k:IntKind) (x:Int):AV.locIn ls (.int k x)=true:=rfl
theorem in_U (ls:List Nat) (x:BitVec 32):AV.locIn ls (U x)=true:=rfl
theorem in_bool (ls:List Nat) (b:Bool):AV.locIn ls (.bool b)=true:=rfl
theorem in_str (ls:List Nat) (x:ByteArray):AV.locIn ls (.str x)=true:=rfl
theorem in_ptr (ls:List Nat) (b o:Nat):AV.locIn ls (.ptr b o)=true:=rfl
theorem in_slice (ls:List Nat) (b o n:Nat) (c:Option Nat) (e:Nat):AV.locIn ls (.slice b o n c e)=true:=rfl
theorem in_nils (ls:List Nat):AV.locIn ls .nils=true:=rfl
theorem in_fn (ls:List Nat) (f:Nat) (l:List AV):AV.locIn ls (.fn f l)=true:=rfl
theorem in_agg (ls:List Nat) (l:List AV):AV.locIn ls (.agg l)=true:=rfl
theorem in_tup (ls:List Nat) (l:List AV):AV.locIn ls (.tup l)=true:=rfl
theorem in_unk (ls:List Nat):AV.locIn ls .unk=true:=rfl
theorem in_nilp (ls:List Nat):AV.locIn ls .nilp=true:=rfl
theorem in_nilf (ls:List Nat):AV.locIn ls .nilf=true:=rfl
theorem in_map (ls:List Nat) (b:Nat):AV.locIn ls (.map b)=true:=rfl
theorem in_nilm (ls:List Nat):AV.locIn ls .nilm=true:=rfl
theorem in_loc (ls:List Nat) (t o:Nat):AV.locIn ls (.loc t o)=ls.contains t:=rfl
section
variable (call:Caller) (s:St) (x y z:Opd)
def lenR (v:AV) (s:St):Option (AV×St):=match v with
  | .nils=>some (.int .i64 0,s)
  | .slice _ _ n _ _=>some (.int .i64 n,s)
  | .es=>some (.int .i64 0,s)
  | _=>none
def idxR (x i:AV) (s:St):Option (AV×St):=match x,i with
  | .str a,.int _ i=>if 0≤i then (match a[i.toNat]? with
   | some c=>some (.int .u8 c.toNat,s)
   | none=>none) else none
  | _,_=>none
def elemR (sz:Nat) (x i:AV) (s:St):Option (AV×St):=match x,i with
  | .slice b o n _ _,.int _ i=>if 0≤i∧i < n then some (.ptr b (o+i.toNat*sz),s) else none
  | _,_=>none
theorem opE_mov:opEv call (.mov x) s=some (s.opd x,s):=rfl
theorem opE_pick:opEv call (.pick x y z) s=match s.opd x with | .bool t=>some (if t then s.opd y else s.opd z,s) | _=>none:=rfl
theorem opE_alloc (p:Option Nat) (l:List AV):opEv call (.alloc p l) s=s.new p l:=rfl
theorem opE_box (p:Option Nat):opEv call (.box p x) s=match (s.opd x).cells? with | some cs=>s.new p cs | none=>none:=rfl
theorem opE_mkslc (sz len:Nat) (l:List AV) (ps:List (Nat×Opd)):opEv call (.mkslc sz len l ps) s=
  if len*sz≤2 ^ 24 then
   match fillEv (zerosEv l (len*sz)) (ps.map fun (i,x)=>(i*sz,sz,s.opd x)) with
   | some c=>if s.m.full then none else some (.slice s.m.n 0 len (some len) sz,{ s with m:=s.m.push (.cells c true) })
   | none=>none
  else none:=rfl
theorem opE_load1:opEv call (.load none x) s=match s.read (s.opd x) 1 with | some [v]=>some (v,s) | _=>none:=rfl
theorem opE_loadk (k:Nat):opEv call (.load (some k) x) s=match s.read (s.opd x) k with | some l=>some (.agg l,s) | none=>none:=rfl
theorem opE_store (k:Nat):opEv call (.store k x y) s=match (s.opd y).cells? with
  | some vs=>if vs.length=k then (match s.write (s.opd x) vs with
   | some s'=>some (.unk,s')
   | none=>none) else none
  | none=>none:=rfl
theorem opE_bin (op:BinOp):opEv call (.bin op x y) s=(binEv op (s.opd x) (s.opd y)).map fun v=>(v,s):=rfl
theorem opE_eq (neg:Bool) (k:EqK):opEv call (.eq neg k x y) s=(eqEv k (s.opd x) (s.opd y)).map fun b=>(.bool (if neg then !b else b),s):=rfl
theorem opE_un (op:UnOp):opEv call (.un op x) s=(unEv op (s.opd x)).map fun v=>(v,s):=rfl
theorem opE_conv (k:IntKind):opEv call (.conv k x) s=match s.opd x with | .int _ n=>some (.int k (k.wrap n),s) | _=>none:=rfl
theorem opE_mkfn (f:Nat) (cs:List Opd):opEv call (.mkfn f cs) s=if (cs.map s.opd).any AV.isLoc then none else some (.fn f (cs.map s.opd),s):=rfl
theorem opE_faddr (off:Nat):opEv call (.faddr off x) s=match s.opd x with | .ptr b o=>some (.ptr b (o+off),s) | .loc t o=>some (.loc t (o+off),s) | _=>none:=rfl
theorem opE_fld (off:Nat) (k:Option Nat):opEv call (.fld off k x) s=match s.opd x with
  | .agg l=>match k with
   | none=>(l[off]?).map fun v=>(v,s)
   | some k=>if off+k≤l.length then some (.agg ((l.drop off).take k),s) else none
  | _=>none:=rfl
theorem opE_iaddrL (sz:Nat):opEv call (.iaddrL sz x y) s=elemR sz (s.opd x) (s.opd y) s:=rfl
theorem opE_idxS:opEv call (.idxS x y) s=idxR (s.opd x) (s.opd y) s:=rfl
theorem opE_ext (i:Nat):opEv call (.ext x i) s=match s.opd x with | .tup l=>(l[i]?).map fun v=>(v,s) | _=>none:=rfl
theorem opE_call (f:Nat) (args:List Opd):opEv call (.call f args) s=callWith call f (args.map s.opd) s:=rfl
theorem opE_callv (args:List Opd):opEv call (.callv x args) s=match s.opd x with | .fn g cs=>callWith call g (args.map s.opd++cs) s | _=>none:=rfl
theorem opE_lenL:opEv call (.lenL x) s=lenR (s.opd x) s:=rfl
theorem opE_app (ty:Option Nat) (sz bytes:Nat):opEv call (.app ty sz bytes x y) s=appEv s ty sz bytes (s.opd x) (s.opd y):=rfl
theorem opE_max (l:List Opd):opEv call (.max l) s=if (l.map s.opd).any AV.isLoc then none else match l.map s.opd with | []=>none | x::r=>(maxEv x r).map fun v=>(v,s):=rfl
theorem opE_min (l:List Opd):opEv call (.min l) s=if (l.map s.opd).any AV.isLoc then none else match l.map s.opd with | []=>none | x::r=>(minEv x r).map fun v=>(v,s):=rfl
theorem lenR_nils:lenR .nils s=some (.int .i64 0,s):=rfl
theorem lenR_slice (b o n:Nat) (c:Option Nat) (e:Nat):lenR (.slice b o n c e) s=some (.int .i64 n,s):=rfl
theorem elemR_slice (sz b o n:Nat) (c:Option Nat) (e:Nat) (k:IntKind) (i:Int):elemR sz (.slice b o n c e) (.int k i) s=if 0≤i∧i < n then some (.ptr b (o+i.toNat*sz),s) else none:=rfl
end
end
end AG
