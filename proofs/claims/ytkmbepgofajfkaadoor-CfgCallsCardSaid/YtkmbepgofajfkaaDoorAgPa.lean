/- What the functions that read images and paths compute, and the laws of that. -/
import Derived.Test.YtkmbepgofajfkaaDoorAgArg2
import Derived.Test.YtkmbepgofajfkaaDoorAgSlcOk
import Derived.Test.YtkmbepgofajfkaaDoorAgClosed
import Derived.DataReads
namespace AG
open Go
set_option maxRecDepth 100000
set_option maxHeartbeats 4000000
def hasI (s:BitVec 32) (k:Int):Bool:=decide (0≤k)&&(decide (k < 32)&&s.getLsbD k.toNat)
theorem bit_and (s:BitVec 32) (k:Nat):decide (s >>> k &&& 1#32=1#32)=s.getLsbD k:=by
 rw [Bool.eq_iff_iff,decide_eq_true_eq]
 constructor
 ·intro h
  have:=congrArg (fun x=>BitVec.getLsbD x 0) h
  simpa using this
 ·intro h
  apply BitVec.eq_of_getLsbD_eq
  intro i hi
  by_cases h0:i=0
  ·subst h0; simp [h]
  ·simp [BitVec.getLsbD_one,h0]
structure V where
 line:Int
 prio:Int
 fn:Int
 deriving DecidableEq
def V.c (v:V):List AV:=[.int .i64 v.line,.int .i64 v.prio,.int .i64 v.fn]
def VS (m:Mem) (v:AV) (l:List V):Prop:=(v=.nils∧l=[])∨∃ b o cap e,v=.slice b o l.length cap e∧∀ (i:Nat) (x:V),l[i]?=some x→∃ c own,m.get b=some (.cells c own)∧cellsAt c (o+i*3) 3=some x.c
def okV (v:V):Bool:=!decide (v.line < 0)&&(!decide (31 < v.line)&&(!decide (v.prio < 1)&&(!decide (15 < v.prio)&&!decide (v.fn < 0))))
def checkL:BitVec 32→List V→Bool
 | _,[]=>true
 | s,v::r=>okV v&&(!hasI s v.line&&checkL (s ||| 1#32 <<< v.line.toNat) r)
theorem drop_cons_get {α:Type} {l r:List α} {i:Nat} {x:α} (h:l.drop i=x::r):l[i]?=some x∧i < l.length∧l.drop (i+1)=r:=by
 have h1:l[i]?=some x:=by
  have:=congrArg (fun y=>y[0]?) h
  simpa using this
 refine ⟨h1,(List.getElem?_eq_some_iff.1 h1).1,?_⟩
 rw [←List.drop_drop,h]; rfl
theorem u_or (x:Int) (_s:BitVec 32) (h:0≤x):binEv .shl (U 1#32) (.int .i64 x)=some (U (1#32 <<< x.toNat)):=bin_shl _ _ _ h
theorem add_i (i:Nat) (h:i≤1000000):binEv .add (.int .i64 (i:Int)) (.int .i64 1)=some (.int .i64 ((i+1:Nat):Int)):=by
 simp only [binEv,if_true,intBin,IntKind.wrap,IntKind.bits]
 simp [IntKind.signed]
 omega
def checkV (l:List V):Int:=if 32 < l.length then 3 else if checkL 0#32 l then 0 else 2
theorem push_n (m:Mem) (b:ABlk):(m.push b).n=m.n+1:=rfl
theorem set_n (m:Mem) (i:Nat) (b:ABlk):(m.set i b).n=m.n:=rfl
theorem not_full {m:Mem} (h:m.n < 2 ^ depth):m.full=false:=by
 unfold Mem.full
 exact decide_eq_false (by omega)
def Ext (m m':Mem):Prop:=m.n≤m'.n∧∀ i,i < m.n→m'.get i=m.get i
theorem Ext.refl (m:Mem):Ext m m:=⟨Nat.le_refl _,fun _ _=>rfl⟩
theorem Ext.trans {a b c:Mem} (h:Ext a b) (k:Ext b c):Ext a c:=⟨Nat.le_trans h.1 k.1,fun i hi=>(k.2 i (Nat.lt_of_lt_of_le hi h.1)).trans (h.2 i hi)⟩
theorem Ext.push {a m:Mem} (h:Ext a m) (b:ABlk) (hf:m.n < 2 ^ depth):Ext a (m.push b):=
 ⟨Nat.le_trans h.1 (by rw [push_n]; omega),fun i hi=>(Mem.get_push_old b (not_full hf) (by have:=h.1; omega)).trans (h.2 i hi)⟩
theorem Ext.set {a m:Mem} (h:Ext a m) (i:Nat) (b:ABlk) (hm:m.n≤2 ^ depth) (hi:a.n≤i) (hi':i < m.n):Ext a (m.set i b):=
 ⟨by rw [set_n]; exact h.1,fun j hj=>(Mem.get_set_ne b hm hi' (by omega)).trans (h.2 j hj)⟩
theorem VS.ext {m m':Mem} {v:AV} {l:List V} (h:VS m v l) (k:Ext m m'):VS m' v l:=by
 rcases h with h | ⟨b,o,cap,e,rfl,h⟩
 ·exact .inl h
 ·refine .inr ⟨b,o,cap,e,rfl,fun i x hx=>?_⟩
  obtain ⟨c,own,h1,h2⟩:=h i x hx
  exact ⟨c,own,(k.2 b (Mem.get_lt h1)).trans h1,h2⟩
theorem VS.plain {m:Mem} {v:AV} {l:List V} (hv:VS m v l):(∀ ls,AV.locIn ls v=true)∧v.isLoc=false∧AV.one v=true∧v.cells?=some [v]:=by
 rcases hv with ⟨rfl,_⟩ | ⟨b,o,cap,e,rfl,_⟩ <;> exact ⟨fun _=>rfl,rfl,rfl,rfl⟩
theorem hasI_or (s:BitVec 32) (n:Nat) (hn:n < 32) (k:Int):hasI (s ||| 1#32 <<< n) k=(hasI s k||decide (k=n)):=by
 unfold hasI
 by_cases h1:0≤k
 ·by_cases h2:k < 32
  ·simp only [h1,h2,decide_true,Bool.true_and,BitVec.getLsbD_or,BitVec.getLsbD_shiftLeft,BitVec.getLsbD_one]
   by_cases h3:k=n
   ·subst h3; simp [hn]
   ·simp only [h3,decide_false,Bool.or_false]
    by_cases h4:k.toNat < n
    ·simp [h4]
    ·simp [h4]; omega
  ·simp only [h2,decide_false,Bool.false_and,Bool.and_false,Bool.false_or]
   symm; rw [decide_eq_false_iff_not]; omega
 ·simp only [h1,decide_false,Bool.false_and,Bool.false_or]
  symm; rw [decide_eq_false_iff_not]; omega
theorem checkL_law:∀ (l:List V) (s:BitVec 32),checkL s l=true→(∀ v∈l,okV v=true∧hasI s v.line=false)∧l.Pairwise (fun a b=>a.line≠b.line)
 | [],s,h=>⟨fun _ h=>(by cases h),List.Pairwise.nil⟩
 | v::r,s,h=>by
  unfold checkL at h
  simp only [Bool.and_eq_true,Bool.not_eq_true'] at h
  obtain ⟨h1,h2,h3⟩:=h
  obtain ⟨a,b⟩:=checkL_law r _ h3
  have ho:=h1
  unfold okV at ho
  simp only [Bool.and_eq_true,Bool.not_eq_true',decide_eq_false_iff_not] at ho
  have key:∀ x∈r,hasI s x.line=false∧v.line≠x.line:=fun x hx=>by
   have:=(a x hx).2
   rw [hasI_or _ _ (by omega),Bool.or_eq_false_iff,decide_eq_false_iff_not] at this
   exact ⟨this.1,by omega⟩
  refine ⟨fun x hx=>?_,List.pairwise_cons.2 ⟨fun x hx=>(key x hx).2,b⟩⟩
  rcases List.mem_cons.1 hx with rfl | hx
  ·exact ⟨h1,h2⟩
  ·exact ⟨(a x hx).1,(key x hx).1⟩
theorem checkV_law {l:List V} (h:checkV l=0):(∀ v∈l,okV v=true)∧l.Pairwise (fun a b=>a.line≠b.line)∧l.length≤32:=by
 unfold checkV at h
 split at h
 ·cases h
 ·split at h
  ·rename_i h1 h2
   obtain ⟨a,b⟩:=checkL_law l _ h2
   exact ⟨fun v hv=>(a v hv).1,b,by omega⟩
  ·cases h
theorem pair_ne {l:List V} (h:l.Pairwise (fun a b=>a.line≠b.line)) {i j:Nat} {a b:V} (ha:l[i]?=some a) (hb:l[j]?=some b) (hij:i≠j):a.line≠b.line:=by
 obtain ⟨hi,rfl⟩:=List.getElem?_eq_some_iff.1 ha
 obtain ⟨hj,rfl⟩:=List.getElem?_eq_some_iff.1 hb
 rcases Nat.lt_or_ge i j with h1 | h1
 ·exact List.pairwise_iff_getElem.1 h i j hi hj h1
 ·exact fun e=>List.pairwise_iff_getElem.1 h j i hj hi (by omega) e.symm
theorem add_ok (x y:Int) (h1:-9223372036854775808≤x+y) (h2:x+y≤9223372036854775807):binEv .add (.int .i64 x) (.int .i64 y)=some (.int .i64 (x+y)):=by
 simp only [binEv,if_true,intBin,IntKind.wrap,IntKind.bits]
 simp [IntKind.signed]
 omega
theorem keepT_setT (ts ls:List Nat) (l:List (Nat×AV)) (t:Nat) (v:AV):keepT ts ls (setT l t v)=ts.map fun u=>(u,if (look (setT l t v) u).locIn ls then look (setT l t v) u else .unk):=rfl
theorem keepT_lit (ts ls:List Nat) (l:List (Nat×AV)) (x:Nat×AV):keepT ts ls (x::l)=ts.map fun u=>(u,if (look (x::l) u).locIn ls then look (x::l) u else .unk):=rfl
theorem okV_law {v:V} (h:okV v=true):0≤v.line∧v.line≤31∧1≤v.prio∧v.prio≤15∧0≤v.fn:=by
 unfold okV at h
 simp only [Bool.and_eq_true,Bool.not_eq_true',decide_eq_false_iff_not] at h
 omega
def RS {α:Type} (f:α→List AV) (c:Nat) (m:Mem) (v:AV) (l:List α):Prop:=(v=.nils∧l=[])∨∃ b o cap e,v=.slice b o l.length cap e∧∀ (i:Nat) (x:α),l[i]?=some x→∃ cs own,m.get b=some (.cells cs own)∧cellsAt cs (o+i*c) c=some (f x)
theorem RS.ext {α:Type} {f:α→List AV} {c:Nat} {m m':Mem} {v:AV} {l:List α} (h:RS f c m v l) (k:Ext m m'):RS f c m' v l:=by
 rcases h with h | ⟨b,o,cap,e,rfl,h⟩
 ·exact .inl h
 ·refine .inr ⟨b,o,cap,e,rfl,fun i x hx=>?_⟩
  obtain ⟨cs,own,h1,h2⟩:=h i x hx
  exact ⟨cs,own,(k.2 b (Mem.get_lt h1)).trans h1,h2⟩
theorem RS.plain {α:Type} {f:α→List AV} {c:Nat} {m:Mem} {v:AV} {l:List α} (hv:RS f c m v l):(∀ ls,AV.locIn ls v=true)∧v.isLoc=false∧AV.one v=true∧v.cells?=some [v]:=by
 rcases hv with ⟨rfl,_⟩ | ⟨b,o,cap,e,rfl,_⟩ <;> exact ⟨fun _=>rfl,rfl,rfl,rfl⟩
def OS (c:Nat) (n0:Nat) (m:Mem) (v:AV) (cs:List AV) (n:Nat):Prop:=(v=.nils∧cs=[]∧n=0)∨∃ b,n0≤b∧v=.slice b 0 n none c∧m.get b=some (.cells cs true)∧cs.length=n*c
theorem OS.rs {α:Type} {f:α→List AV} {c n0:Nat} (hf:∀ x,(f x).length=c) {m:Mem} {v:AV} {l:List α} (h:OS c n0 m v (l.flatMap f) l.length):RS f c m v l:=by
 rcases h with ⟨rfl,_,h⟩ | ⟨b,_,rfl,h1,h2⟩
 ·exact .inl ⟨rfl,List.length_eq_zero_iff.1 h⟩
 ·exact .inr ⟨b,0,none,c,rfl,fun i x hx=>⟨_,_,h1,flat_cells f c hf hx⟩⟩
theorem OS.plain {c n0:Nat} {m:Mem} {v:AV} {cs:List AV} {n:Nat} (hv:OS c n0 m v cs n):(∀ ls,AV.locIn ls v=true)∧v.isLoc=false∧AV.one v=true∧v.cells?=some [v]:=by
 rcases hv with ⟨rfl,_⟩ | ⟨b,_,rfl,_⟩ <;> exact ⟨fun _=>rfl,rfl,rfl,rfl⟩
theorem OS.push {c n0:Nat} {m:Mem} {v:AV} {cs:List AV} {n:Nat} (hv:OS c n0 m v cs n) (b:ABlk) (hf:m.n < 2 ^ depth):OS c n0 (m.push b) v cs n:=by
 rcases hv with h | ⟨k,h0,rfl,h1,h2⟩
 ·exact .inl h
 ·exact .inr ⟨k,h0,rfl,(Mem.get_push_old b (not_full hf) (by have:=Mem.get_lt h1; omega)).trans h1,h2⟩
theorem noteO_n (m:Mem) (i:Nat) (o:Option Nat):(m.noteO i o).n=m.n:=by cases o <;> rfl
theorem app_spec {ty:Option Nat} {c n0 bytes:Nat} (hc:0 < c) {m:Mem} {v:AV} {cs:List AV} {n:Nat} (hv:OS c n0 m v cs n) {by':Nat} {cp:Option Nat} {e:List AV} {ow:Bool} (hy:m.get by'=some (.cells e ow)) (he:e.length=c) (h1:e.all AV.one=true)
  (hmn:m.n < 2 ^ depth) (hn0:n0≤m.n) (hb:(2*(n+1))*bytes≤281474976710656) (hn:n+1≤maxLen):
  ∃ v' m',(∀ sn t l,appEv ⟨sn,t,l,m⟩ ty c bytes v (.slice by' 0 1 cp c)=some (v',⟨sn,t,l,m'⟩))∧OS c n0 m' v' (cs++e) (n+1)∧m'.n=m.n+1∧(∀ i,i < n0→m'.get i=m.get i):=by
 have hel:∀ sn t l,(AV.slice by' 0 1 cp c).elems ⟨sn,t,l,m⟩ c=some (1,e):=by
  intro sn t l
  simp only [AV.elems,hy]
  have:cellsAt e 0 (1*c)=some e:=by
   unfold cellsAt
   rw [if_pos (by omega)]
   simp [←he]
  rw [this]
  try rfl
 have hf:=not_full hmn
 rcases hv with ⟨rfl,rfl,rfl⟩ | ⟨b,h0,rfl,h2,h3⟩
 ·refine ⟨.slice m.n 0 1 none c,(m.push (.cells e true)).noteO m.n ty,fun sn t l=>?_,.inr ⟨m.n,hn0,rfl,by rw [Mem.get_noteO]; exact Mem.get_push_new _,by simp [he]⟩,noteO_n _ _ _,fun i hi=>by rw [Mem.get_noteO]; exact Mem.get_push_old _ hf (by omega)⟩
  simp only [appEv,hel,h1,hf,if_true,Bool.false_eq_true,if_false]
  rw [if_neg (by decide),if_pos (by constructor <;> omega)]
 ·have hbl:=Mem.get_lt h2
  refine ⟨.slice m.n 0 (n+1) none c,((m.set b .dead).push (.cells (cs++e) true)).noteO m.n (if (m.tyOf b).map (·.1)=ty then ty else none),fun sn t l=>?_,.inr ⟨m.n,hn0,rfl,?_,by simp [he,h3,Nat.add_mul]⟩,noteO_n _ _ _,fun i hi=>?_⟩
  ·simp only [appEv,hel,h1,hf,if_true,Bool.false_eq_true,if_false,h2]
   have c1:¬(0+(n+1)*c≤cs.length):=by rw [h3,Nat.add_mul]; omega
   have c2:cellsAt cs 0 (n*c)=some cs:=by
    unfold cellsAt
    rw [if_pos (by omega)]
    simp [←h3]
   rw [if_pos ⟨trivial,hc⟩,if_neg c1,c2]
   simp only
   rw [if_pos ⟨hb,hn⟩]
  ·have:=Mem.get_push_new (m:=m.set b .dead) (.cells (cs++e) true)
   rw [set_n] at this
   rw [Mem.get_noteO]
   exact this
  ·rw [Mem.get_noteO,Mem.get_push_old _ (by rw [not_full]; rw [set_n]; exact hmn) (by rw [set_n]; omega),Mem.get_set_ne _ (by omega) hbl (by omega)]
theorem RS.lenR {α:Type} {f:α→List AV} {c:Nat} {m:Mem} {v:AV} {l:List α} (hv:RS f c m v l) (s:St):AG.lenR v s=some (.int .i64 l.length,s):=by
 rcases hv with ⟨rfl,rfl⟩ | ⟨b,o,cap,e,rfl,_⟩ <;> rfl
theorem VS.lenR {m:Mem} {v:AV} {l:List V} (hv:VS m v l) (s:St):AG.lenR v s=some (.int .i64 l.length,s):=RS.lenR (f:=V.c) (c:=3) hv s
inductive Stp (β γ:Type) where
 | go (b:β)
 | brk (b:β)
 | ret (c:γ)
def foldS {α β γ:Type} (f:Nat→α→β→Stp β γ):List α→Nat→β→β ⊕ γ
 | [],_,b=>.inl b
 | x::r,i,b=>match f i x b with
  | .go b'=>foldS f r (i+1) b'
  | .brk b'=>.inl b'
  | .ret c=>.inr c
theorem scan {A:Nat→Option AFn} {α β γ:Type} (lp bd:AC) (hstep:∀ call again s,codeEv call again lp s=match codeEv call again bd s with | some (.norm,s1)=>again lp s1 | r=>r)
  (S:Nat→β→St→Prop) (X:β→St→Prop) (R:γ→St→Prop) (ex:Nat) (K:Nat) (f:Nat→α→β→Stp β γ) (l:List α)
  (hend:∀ N b s,K≤N→S l.length b s→∃ s',codeEv (run A N) (ev A N).2 bd s=some (.exit ex,s')∧X b s')
  (hbody:∀ N i x b s,K≤N→l[i]?=some x→S i b s→match f i x b with
   | .go b'=>∃ s',codeEv (run A N) (ev A N).2 bd s=some (.norm,s')∧S (i+1) b' s'
   | .brk b'=>∃ s',codeEv (run A N) (ev A N).2 bd s=some (.exit ex,s')∧X b' s'
   | .ret c=>∃ s',codeEv (run A N) (ev A N).2 bd s=some (.ret,s')∧R c s'):
  ∀ (r:List α) (i N:Nat) (b:β) (s:St),l.drop i=r→i+r.length=l.length→K+r.length≤N→S i b s→match foldS f r i b with
   | .inl b'=>∃ s',codeEv (run A N) (ev A N).2 lp s=some (.exit ex,s')∧X b' s'
   | .inr c=>∃ s',codeEv (run A N) (ev A N).2 lp s=some (.ret,s')∧R c s'
 | [],i,N,b,s,hr,hi,hN,hs=>by
  simp only [foldS]
  simp only [List.length_nil,Nat.add_zero] at hi hN
  rw [hi] at hs
  obtain ⟨s',e1,e2⟩:=hend N b s hN hs
  exact ⟨s',by rw [hstep,e1],e2⟩
 | x::r,i,N,b,s,hr,hi,hN,hs=>by
  obtain ⟨g1,g2,g3⟩:=drop_cons_get hr
  simp only [List.length_cons] at hN hi
  have h:=hbody N i x b s (by omega) g1 hs
  simp only [foldS]
  cases hf:f i x b with
  | go b'=>
   rw [hf] at h
   obtain ⟨s1,e1,e2⟩:=h
   obtain ⟨n,rfl⟩:∃ n,N=n+1:=⟨N - 1,by omega⟩
   have h2:=scan lp bd hstep S X R ex K f l hend hbody r (i+1) n b' s1 g3 (by omega) (by omega) e2
   dsimp only
   rw [hstep,e1]
   dsimp only
   rw [again_of]
   exact h2
  | brk b'=>
   rw [hf] at h
   obtain ⟨s1,e1,e2⟩:=h
   exact ⟨s1,by rw [hstep,e1],e2⟩
  | ret c=>
   rw [hf] at h
   obtain ⟨s1,e1,e2⟩:=h
   exact ⟨s1,by rw [hstep,e1],e2⟩
theorem scan0 {A:Nat→Option AFn} {α β γ:Type} (lp bd:AC) (hstep:∀ call again s,codeEv call again lp s=match codeEv call again bd s with | some (.norm,s1)=>again lp s1 | r=>r)
  (S:Nat→β→St→Prop) (X:β→St→Prop) (R:γ→St→Prop) (ex:Nat) (K:Nat) (f:Nat→α→β→Stp β γ) (l:List α)
  (hend:∀ N b s,K≤N→S l.length b s→∃ s',codeEv (run A N) (ev A N).2 bd s=some (.exit ex,s')∧X b s')
  (hbody:∀ N i x b s,K≤N→l[i]?=some x→S i b s→match f i x b with
   | .go b'=>∃ s',codeEv (run A N) (ev A N).2 bd s=some (.norm,s')∧S (i+1) b' s'
   | .brk b'=>∃ s',codeEv (run A N) (ev A N).2 bd s=some (.exit ex,s')∧X b' s'
   | .ret c=>∃ s',codeEv (run A N) (ev A N).2 bd s=some (.ret,s')∧R c s')
  (N:Nat) (b:β) (s:St) (hN:K+l.length≤N) (hs:S 0 b s) {q:Option (Ex×St)} (hq:codeEv (run A N) (ev A N).2 lp s=q):match foldS f l 0 b with
   | .inl b'=>∃ s',q=some (.exit ex,s')∧X b' s'
   | .inr c=>∃ s',q=some (.ret,s')∧R c s':=by
 subst hq
 exact scan lp bd hstep S X R ex K f l hend hbody l 0 N b s rfl (by omega) hN hs
def allS {α:Type} (P:Nat→α→Bool):Nat→α→Unit→Stp Unit Unit:=fun i x _=>if P i x=true then .go () else .ret ()
def allI {α:Type} (P:Nat→α→Bool):List α→Nat→Bool
 | [],_=>true
 | x::r,i=>P i x&&allI P r (i+1)
theorem fold_all {α:Type} (P:Nat→α→Bool):∀ (l:List α) (i:Nat),foldS (allS P) l i ()=if allI P l i=true then .inl () else .inr ()
 | [],i=>rfl
 | x::r,i=>by
  have ih:=fold_all P r (i+1)
  by_cases h:P i x=true
  ·have e:allS P i x ()=.go ():=if_pos h
   simp only [foldS,e,allI,h,Bool.true_and]
   exact ih
  ·have e:allS P i x ()=.ret ():=if_neg h
   have h':P i x=false:=by simpa using h
   simp only [foldS,e,allI,h',Bool.false_and,Bool.false_eq_true,if_false]
theorem allI_iff {α:Type} (P:Nat→α→Bool):∀ (l:List α) (i:Nat),allI P l i=true↔∀ (j:Nat) (x:α),l[j]?=some x→P (i+j) x=true
 | [],i=>by simp [allI]
 | x::r,i=>by
  simp only [allI,Bool.and_eq_true,allI_iff P r (i+1)]
  constructor
  ·rintro ⟨h1,h2⟩ j y hy
   match j,hy with
   | 0,hy=>cases hy; exact h1
   | j+1,hy=>have:=h2 j y hy; rwa [show i+1+j=i+(j+1) by omega] at this
  ·intro h
   refine ⟨h 0 x rfl,fun j y hy=>?_⟩
   have:=h (j+1) y hy
   rwa [show i+(j+1)=i+1+j by omega] at this
theorem cells_sub {cs:List AV} {o c:Nat} {l:List AV} (h:cellsAt cs o c=some l) {k:Nat} {x:AV} (hx:l[k]?=some x):cellsAt cs (o+k) 1=some [x]:=by
 unfold cellsAt at h
 split at h
 ·simp only [Option.some.injEq] at h
  apply cells_one
  rw [←h] at hx
  have hk:k < c:=by
   have:=(List.getElem?_eq_some_iff.1 hx).1
   rw [List.length_take,List.length_drop] at this
   omega
  rw [List.getElem?_take,if_pos hk,List.getElem?_drop] at hx
  exact hx
 ·cases h
theorem RS.at {α:Type} {f:α→List AV} {c:Nat} {m:Mem} {v:AV} {l:List α} (hv:RS f c m v l) {i:Nat} {x:α} (hx:l[i]?=some x):∃ b o cs ow,(∀ s,elemR c v (.int .i64 (i:Int)) s=some (.ptr b o,s))∧m.get b=some (.cells cs ow)∧cellsAt cs o c=some (f x):=by
 have hlt:=(List.getElem?_eq_some_iff.1 hx).1
 rcases hv with ⟨rfl,rfl⟩ | ⟨b,o,cap,e,rfl,h⟩
 ·simp at hlt
 ·obtain ⟨cs,ow,h1,h2⟩:=h i x hx
  refine ⟨b,o+i*c,cs,ow,fun s=>?_,h1,h2⟩
  rw [elemR_slice,if_pos (by omega),Int.toNat_natCast]
def RE (m:Mem) (w:AV) (l:List Int):Prop:=RS (fun x=>[AV.int .i64 x]) 1 m w l∨(w=.es∧l=[])
theorem RE.ext {m m':Mem} {w:AV} {l:List Int} (h:RE m w l) (k:Ext m m'):RE m' w l:=h.imp (fun h=>h.ext k) id
theorem RE.plain {m:Mem} {w:AV} {l:List Int} (h:RE m w l):(∀ ls,AV.locIn ls w=true)∧w.isLoc=false∧AV.one w=true∧w.cells?=some [w]:=by
 rcases h with h | ⟨rfl,_⟩
 ·exact h.plain
 ·exact ⟨fun _=>rfl,rfl,rfl,rfl⟩
theorem RE.lenR {m:Mem} {w:AV} {l:List Int} (h:RE m w l) (s:St):AG.lenR w s=some (.int .i64 l.length,s):=by
 rcases h with h | ⟨rfl,rfl⟩
 ·exact h.lenR s
 ·rfl
theorem RE.i1 {m:Mem} {v:AV} {l:List Int} (hv:RE m v l) {i:Nat} {x:Int} (hx:l[i]?=some x):∃ b o cs ow,(∀ s,elemR 1 v (.int .i64 (i:Int)) s=some (.ptr b o,s))∧m.get b=some (.cells cs ow)∧cellsAt cs o 1=some [.int .i64 x]:=by
 rcases hv with h | ⟨rfl,rfl⟩
 ·exact h.at hx
 ·cases hx
def AS (m:Mem) (v:AV) (ls:List (List Int)):Prop:=∃ vs:List AV,RS (fun w=>[w]) 1 m v vs∧vs.length=ls.length∧∀ (i:Nat) (w:AV) (l:List Int),vs[i]?=some w→ls[i]?=some l→RE m w l
theorem AS.ext {m m':Mem} {v:AV} {ls:List (List Int)} (h:AS m v ls) (k:Ext m m'):AS m' v ls:=by
 obtain ⟨vs,h1,h2,h3⟩:=h
 exact ⟨vs,h1.ext k,h2,fun i w l hw hl=>(h3 i w l hw hl).ext k⟩
theorem AS.plain {m:Mem} {v:AV} {ls:List (List Int)} (h:AS m v ls):(∀ ls,AV.locIn ls v=true)∧v.isLoc=false∧AV.one v=true∧v.cells?=some [v]:=by
 obtain ⟨vs,h1,_⟩:=h
 exact h1.plain
theorem AS.lenR {m:Mem} {v:AV} {ls:List (List Int)} (h:AS m v ls) (s:St):AG.lenR v s=some (.int .i64 ls.length,s):=by
 obtain ⟨vs,h1,h2,_⟩:=h
 rw [h1.lenR,h2]
theorem AS.at {m:Mem} {v:AV} {ls:List (List Int)} (h:AS m v ls) {i:Nat} {l:List Int} (hl:ls[i]?=some l):∃ b o cs ow w,(∀ s,elemR 1 v (.int .i64 (i:Int)) s=some (.ptr b o,s))∧m.get b=some (.cells cs ow)∧cellsAt cs o 1=some [w]∧RE m w l:=by
 obtain ⟨vs,h1,h2,h3⟩:=h
 have hlt:=(List.getElem?_eq_some_iff.1 hl).1
 obtain ⟨w,hw⟩:∃ w,vs[i]?=some w:=⟨_,List.getElem?_eq_getElem (by omega)⟩
 obtain ⟨b,o,cs,ow,e1,e2,e3⟩:=h1.at hw
 exact ⟨b,o,cs,ow,w,e1,e2,e3,h3 i w l hw hl⟩
theorem opE_build (call:Caller) (z:List AV) (parts:List (Nat×Nat×Opd)) (s:St):opEv call (.build z parts) s=match fillEv z (parts.map fun (o,k,x)=>(o,k,s.opd x)) with | some c=>some (.agg c,s) | none=>none:=rfl
def ixR (n sz:Nat) (agg:Bool) (x i:AV) (s:St):Option (AV×St):=match x,i with
  | .agg l,.int _ i=>if 0≤i∧i < n then (if agg then (if i.toNat*sz+sz≤l.length then some (.agg ((l.drop (i.toNat*sz)).take sz),s) else none) else (l[i.toNat*sz]?).map fun v=>(v,s)) else none
  | _,_=>none
theorem opE_idxA (call:Caller) (n sz:Nat) (agg:Bool) (x i:Opd) (s:St):opEv call (.idxA n sz agg x i) s=ixR n sz agg (s.opd x) (s.opd i) s:=rfl
theorem ixR_one (n sz:Nat) (l:List AV) (k:IntKind) (i:Int) (s:St):ixR n sz false (.agg l) (.int k i) s=if 0≤i∧i < n then (l[i.toNat*sz]?).map fun v=>(v,s) else none:=rfl
def iaR (n sz:Nat) (x i:AV) (s:St):Option (AV×St):=match x,i with
  | .ptr b o,.int _ i=>if 0≤i∧i < n then some (.ptr b (o+i.toNat*sz),s) else none
  | .loc t o,.int _ i=>if 0≤i∧i < n then some (.loc t (o+i.toNat*sz),s) else none
  | _,_=>none
theorem opE_iaddrA (call:Caller) (n sz:Nat) (x i:Opd) (s:St):opEv call (.iaddrA n sz x i) s=iaR n sz (s.opd x) (s.opd i) s:=rfl
theorem iaR_ptr (n sz b o:Nat) (k:IntKind) (i:Int) (s:St):iaR n sz (.ptr b o) (.int k i) s=if 0≤i∧i < n then some (.ptr b (o+i.toNat*sz),s) else none:=rfl
theorem iaR_loc (n sz b o:Nat) (k:IntKind) (i:Int) (s:St):iaR n sz (.loc b o) (.int k i) s=if 0≤i∧i < n then some (.loc b (o+i.toNat*sz),s) else none:=rfl
def nilR (x:AV) (s:St):Option (AV×St):=match x with
  | .unk | .nilp | .nili | .nilf=>none
  | v=>some (v,s)
theorem opE_nilck (call:Caller) (x:Opd) (s:St):opEv call (.nilck x) s=nilR (s.opd x) s:=rfl
theorem nilR_ptr (b o:Nat) (s:St):nilR (.ptr b o) s=some (.ptr b o,s):=rfl
def slcR (sz:Nat) (x:AV) (lo hi mx:Option AV) (s:St):Option (AV×St):=match x with
  | .nils=>match bndsEv 0 0 lo hi mx with
   | some _=>some (.nils,s)
   | none=>none
  | .slice b o n (some c) e=>match bndsEv n c lo hi mx with
   | some (l,h,m)=>some (.slice b (if m=l then o else o+l*sz) (h - l) (some (m - l)) e,s)
   | none=>none
  | .slice b o n none e=>match mx with
   | none=>match bndsEv n n lo hi none with
    | some (l,h,_)=>if l < n∧e=sz∧0 < sz then some (.slice b (o+l*sz) (h - l) none e,s) else none
    | none=>none
   | some mx=>match bndsEv n n lo hi (some mx) with
    | some (l,h,m)=>some (.slice b (if m=l then o else o+l*sz) (h - l) (some (m - l)) e,s)
    | none=>none
  | _=>none
theorem opE_slcL (call:Caller) (sz:Nat) (x:Opd) (lo hi mx:Option Opd) (s:St):opEv call (.slcL sz x lo hi mx) s=slcR sz (s.opd x) (lo.map s.opd) (hi.map s.opd) (mx.map s.opd) s:=by
 cases mx <;> rfl
theorem kd_rm:(Kd.read=Kd.mem)=False:=by simp
theorem kd_sm:(Kd.store=Kd.mem)=False:=by simp
theorem logOk_nil':logOk []=true:=rfl
theorem eqb (a b:Bool):eqEv .bool (.bool a) (.bool b)=some (a == b):=rfl
theorem str_eqg (x y:ByteArray):binEv .eql (.str x) (.str y)=some (.bool (x.toList == y.toList)):=rfl
theorem str_ne (x y:ByteArray):binEv .neq (.str x) (.str y)=some (.bool (!(x.toList == y.toList))):=rfl
theorem ad0:binEv .add (.int .i64 0) (.int .i64 1)=some (.int .i64 1):=rfl
theorem ad1:binEv .add (.int .i64 1) (.int .i64 1)=some (.int .i64 2):=rfl
theorem ad2:binEv .add (.int .i64 2) (.int .i64 1)=some (.int .i64 3):=rfl
def Gr (m m':Mem) (k:Nat):Prop:=Ext m m'∧m'.n≤m.n+k
theorem Gr.refl (m:Mem):Gr m m 0:=⟨Ext.refl m,Nat.le_refl _⟩
theorem Gr.trans {a b c:Mem} {j k:Nat} (h:Gr a b j) (i:Gr b c k):Gr a c (j+k):=⟨h.1.trans i.1,by have:=h.2; have:=i.2; omega⟩
theorem Gr.le {a b:Mem} {j k:Nat} (h:Gr a b j) (hk:j≤k):Gr a b k:=⟨h.1,by have:=h.2; omega⟩
theorem Gr.push (m:Mem) (b:ABlk) (hf:m.n < 2 ^ depth):Gr m (m.push b) 1:=⟨(Ext.refl m).push b hf,by rw [push_n]; omega⟩
structure II where
 op:Int
 a:Int
 b:Int
 c:Int
 deriving DecidableEq
def II.cs (i:II):List AV:=[.int .i64 i.op,.int .i64 i.a,.int .i64 i.b,.int .i64 i.c]
structure FF where
 entry:Int
 params:Int
 locals:Int
 deriving DecidableEq
def FF.cs (f:FF):List AV:=[.int .i64 f.entry,.int .i64 f.params,.int .i64 f.locals]
def PT.cs (p:Bool×Bool):List AV:=[.bool p.1,.bool p.2]
def u32C (x:Int):List AV:=[.int .u32 x]
def iC1 (x:Int):List AV:=[.int .i64 x]
structure Img where
 code:List II
 funcs:List FF
 vecs:List V
 main:Int
 init:List Int
 ports:List (Bool×Bool)
 stack:Int
 atoms:List (List Int)
structure ImV where
 c:AV
 f:AV
 v:AV
 i:AV
 p:AV
 a:AV
structure IM (m:Mem) (I:ImV) (M:Img):Prop where
 c:RS II.cs 4 m I.c M.code
 f:RS FF.cs 3 m I.f M.funcs
 v:RS V.c 3 m I.v M.vecs
 i:RS u32C 1 m I.i M.init
 p:RS PT.cs 2 m I.p M.ports
 a:AS m I.a M.atoms
theorem IM.ext {m m':Mem} {I:ImV} {M:Img} (h:IM m I M) (k:Ext m m'):IM m' I M:=⟨h.c.ext k,h.f.ext k,h.v.ext k,h.i.ext k,h.p.ext k,h.a.ext k⟩
def fromP (M:Img) (f:Nat):Int:=(M.funcs[f]?.map FF.entry).getD 0
def toP (M:Img) (f:Nat):Int:=if f+1 < M.funcs.length then fromP M (f+1) else M.code.length
theorem RS.ff {m:Mem} {v:AV} {l:List FF} (hv:RS FF.cs 3 m v l) {i:Nat} {x:FF} (hx:l[i]?=some x):∃ b o cs ow,(∀ s,elemR 3 v (.int .i64 (i:Int)) s=some (.ptr b o,s))∧m.get b=some (.cells cs ow)∧cellsAt cs o 3=some [.int .i64 x.entry,.int .i64 x.params,.int .i64 x.locals]∧cellsAt cs (o+0) 1=some [.int .i64 x.entry]∧cellsAt cs (o+1) 1=some [.int .i64 x.params]∧cellsAt cs (o+2) 1=some [.int .i64 x.locals]:=by
 obtain ⟨b,o,cs,ow,h1,h2,h3⟩:=hv.at hx
 exact ⟨b,o,cs,ow,h1,h2,h3,cells_sub h3 rfl,cells_sub h3 rfl,cells_sub h3 rfl⟩
abbrev ic (I:ImV) (M:Img):List AV:=[I.c,I.f,I.v,.int .i64 M.main,I.i,I.p,.int .i64 M.stack,I.a]
theorem IM.pls {m:Mem} {I:ImV} {M:Img} (hm:IM m I M):(type_of% hm.c.plain)∧(type_of% hm.c.lenR)∧(type_of% hm.f.plain)∧(type_of% hm.f.lenR)∧(type_of% hm.v.plain)∧(type_of% hm.v.lenR)∧(type_of% hm.i.plain)∧(type_of% hm.i.lenR)∧(type_of% hm.p.plain)∧(type_of% hm.p.lenR)∧(type_of% hm.a.plain)∧(type_of% hm.a.lenR):=
 ⟨hm.c.plain,hm.c.lenR,hm.f.plain,hm.f.lenR,hm.v.plain,hm.v.lenR,hm.i.plain,hm.i.lenR,hm.p.plain,hm.p.lenR,hm.a.plain,hm.a.lenR⟩
theorem KK:(((((((type_of% @Bool.and_false)∧((type_of% @Bool.and_true)∧(type_of% @Bool.false_and)))∧(((type_of% @Bool.false_eq_true)∧(type_of% @Bool.false_or))∧((type_of% @Bool.not_false)∧(type_of% @Bool.not_true))))∧(((type_of% @Bool.or_false)∧((type_of% @Bool.or_true)∧(type_of% @Bool.true_and)))∧(((type_of% @Bool.true_eq_false)∧(type_of% @Bool.true_or))∧((type_of% @Int.toNat_zero)∧(type_of% @List.all.eq_1.{0})))))∧((((type_of% @List.all.eq_2.{0})∧((type_of% @List.any.eq_1.{0})∧(type_of% @List.any.eq_2.{0})))∧(((type_of% @List.append.eq_1.{0})∧(type_of% @List.append.eq_2.{0}))∧((type_of% @List.append_nil.{0})∧(type_of% @List.cons_append.{0}))))∧((((type_of% @List.contains_cons.{0})∧(type_of% @List.contains_nil.{0}))∧((type_of% @List.drop.eq_1.{0})∧(type_of% @List.drop.eq_2.{0})))∧(((type_of% @List.drop.eq_3.{0})∧(type_of% @List.drop_succ_cons.{0}))∧((type_of% @List.drop_zero.{0})∧(type_of% @List.foldl.eq_1.{0,0}))))))∧(((((type_of% @List.foldl.eq_2.{0,0})∧((type_of% @List.getD.eq_1.{0})∧(type_of% @List.getElem?_cons_succ.{0})))∧(((type_of% @List.getElem?_cons_zero.{0})∧(type_of% @List.isEmpty_cons.{0}))∧((type_of% @List.length.eq_1.{0})∧(type_of% @List.length.eq_2.{0}))))∧(((type_of% @List.length_cons.{0})∧((type_of% @List.length_nil.{0})∧(type_of% @List.map.eq_1.{0,0})))∧(((type_of% @List.map.eq_2.{0,0})∧(type_of% @List.nil_append.{0}))∧((type_of% @List.singleton_append.{0})∧(type_of% @List.take.eq_1.{0})))))∧((((type_of% @List.take.eq_2.{0})∧((type_of% @List.take.eq_3.{0})∧(type_of% @List.take_succ_cons.{0})))∧(((type_of% @List.take_zero.{0})∧(type_of% @Nat.one_mul))∧((type_of% @Nat.succ_ne_self)∧(type_of% @Nat.zero_mul))))∧((((type_of% @Option.map_some.{0,0})∧(type_of% @Option.toList_some.{0}))∧((type_of% @St.new.eq_1)∧(type_of% @St.new.eq_2)))∧(((type_of% @St.opd.eq_1)∧(type_of% @St.opd.eq_2))∧((type_of% @St.put.eq_1)∧(type_of% @St.put.eq_2)))))))∧((((((type_of% @St.read.eq_1)∧((type_of% @St.read.eq_2)∧(type_of% @St.read.eq_3)))∧(((type_of% @St.write.eq_1)∧(type_of% @St.write.eq_2))∧((type_of% @St.write.eq_3)∧(type_of% @accEv.eq_1))))∧(((type_of% @accEv.eq_2)∧((type_of% @accEv.eq_3)∧(type_of% @accEv.eq_4)))∧(((type_of% @accEv.eq_5)∧(type_of% @accOf.eq_1))∧((type_of% @and_self)∧(type_of% @and_true)))))∧((((type_of% @argsT.eq_1)∧((type_of% @argsT.eq_2)∧(type_of% @beq_ff)))∧(((type_of% @beq_ft)∧(type_of% @beq_self_eq_true.{0}))∧((type_of% @beq_tf)∧(type_of% @beq_tt))))∧((((type_of% @bin_and)∧(type_of% @bin_andNot))∧((type_of% @bin_ieq)∧(type_of% @bin_ige)))∧(((type_of% @bin_igt)∧(type_of% @bin_ile))∧((type_of% @bin_ilt)∧(type_of% @bin_ine))))))∧(((((type_of% @bin_or)∧((type_of% @bin_ueq)∧(type_of% @bin_ult)))∧(((type_of% @bin_une)∧(type_of% @bin_xor))∧((type_of% @callWith.eq_1)∧(type_of% @careEv.eq_1))))∧((((type_of% @careEv.eq_2)∧(type_of% @careEv.eq_3))∧((type_of% @careEv.eq_4)∧(type_of% @careEv.eq_5)))∧(((type_of% @cellsAt_cons)∧(type_of% @cells_U))∧((type_of% @cells_agg)∧(type_of% @cells_bool)))))∧((((type_of% @cells_fn)∧((type_of% @cells_int)∧(type_of% @cells_map)))∧(((type_of% @cells_nilf)∧(type_of% @cells_nilm))∧((type_of% @cells_nilp)∧(type_of% @cells_nils))))∧((((type_of% @cells_ptr)∧(type_of% @cells_slice))∧((type_of% @cells_str)∧(type_of% @codeEv.eq_1)))∧(((type_of% @codeEv.eq_2)∧(type_of% @codeEv.eq_3))∧((type_of% @codeEv.eq_4)∧(type_of% @codeEv.eq_5))))))))∧(((((((type_of% @codeEv.eq_6)∧((type_of% @codeEv.eq_7)∧(type_of% @codeEv.eq_8)))∧(((type_of% @codeEv.eq_9)∧(type_of% @codeEv.eq_10))∧((type_of% @codeEv.eq_11)∧(type_of% @dOneEv.eq_1))))∧(((type_of% @dOpsEv.eq_1)∧((type_of% @dOpsEv.eq_2)∧(type_of% @decide_false)))∧(((type_of% @decide_true)∧(type_of% @elemR_slice))∧((type_of% @fillEv.eq_1)∧(type_of% @fillEv.eq_2)))))∧((((type_of% @guardEv.eq_1)∧((type_of% @guardEv.eq_2)∧(type_of% @if_false.{1})))∧(((type_of% @if_true.{1})∧(type_of% @in_U))∧((type_of% @in_agg)∧(type_of% @in_bool))))∧((((type_of% @in_fn)∧(type_of% @in_int))∧((type_of% @in_loc)∧(type_of% @in_map)))∧(((type_of% @in_nilf)∧(type_of% @in_nilm))∧((type_of% @in_nilp)∧(type_of% @in_nils))))))∧(((((type_of% @in_ptr)∧((type_of% @in_slice)∧(type_of% @in_str)))∧(((type_of% @in_tup)∧(type_of% @in_unk))∧((type_of% @keepL.eq_1)∧(type_of% @keepL.eq_2))))∧((((type_of% @keepT_lit)∧(type_of% @keepT_setT))∧((type_of% @lenR_nils)∧(type_of% @lenR_slice)))∧(((type_of% @loc_U)∧(type_of% @loc_agg))∧((type_of% @loc_bool)∧(type_of% @loc_fn)))))∧((((type_of% @loc_int)∧((type_of% @loc_map)∧(type_of% @loc_nilf)))∧(((type_of% @loc_nilm)∧(type_of% @loc_nilp))∧((type_of% @loc_nils)∧(type_of% @loc_ptr))))∧((((type_of% @loc_slice)∧(type_of% @loc_str))∧((type_of% @loc_tup)∧(type_of% @loc_unk)))∧(((type_of% @lookL_cons)∧(type_of% @lookL_nil))∧((type_of% @look_cons)∧(type_of% @look_nil)))))))∧((((((type_of% @look_set)∧((type_of% @oneEv.eq_1)∧(type_of% @one_U)))∧(((type_of% @one_bool)∧(type_of% @one_fn))∧((type_of% @one_int)∧(type_of% @one_map))))∧(((type_of% @one_nilf)∧((type_of% @one_nilm)∧(type_of% @one_nilp)))∧(((type_of% @one_nils)∧(type_of% @one_ptr))∧((type_of% @one_slice)∧(type_of% @one_str)))))∧((((type_of% @opE_alloc)∧((type_of% @opE_app)∧(type_of% @opE_bin)))∧(((type_of% @opE_box)∧(type_of% @opE_build))∧((type_of% @opE_call)∧(type_of% @opE_callv))))∧((((type_of% @opE_conv)∧(type_of% @opE_eq))∧((type_of% @opE_ext)∧(type_of% @opE_faddr)))∧(((type_of% @opE_fld)∧(type_of% @opE_iaddrL))∧((type_of% @opE_idxS)∧(type_of% @opE_lenL))))))∧(((((type_of% @opE_load1)∧((type_of% @opE_loadk)∧(type_of% @opE_max)))∧(((type_of% @opE_min)∧(type_of% @opE_mkfn))∧((type_of% @opE_mov)∧(type_of% @opE_pick))))∧((((type_of% @opE_store)∧(type_of% @opE_un))∧((type_of% @opsEv.eq_1)∧(type_of% @opsEv.eq_2)))∧(((type_of% @resEv.eq_1)∧(type_of% @resEv.eq_2))∧((type_of% @resEv.eq_3)∧(type_of% @resEv.eq_4)))))∧((((type_of% @scrub.eq_1)∧((type_of% @scrub.eq_2)∧(type_of% @scrub.eq_3)))∧(((type_of% @setL_cons)∧(type_of% @setL_nil))∧((type_of% @splice.eq_1)∧(type_of% @str_eqg))))∧((((type_of% @str_ne)∧(type_of% @true_and))∧((type_of% @u_0)∧(type_of% @u_1)))∧(((type_of% @unEv.eq_1)∧(type_of% @unEv.eq_2))∧((type_of% @unEv.eq_3)∧(type_of% @unEv.eq_4)))))))):=
 ⟨⟨⟨⟨⟨⟨⟨@Bool.and_false,⟨@Bool.and_true,@Bool.false_and⟩⟩,⟨⟨@Bool.false_eq_true,@Bool.false_or⟩,⟨@Bool.not_false,@Bool.not_true⟩⟩⟩,⟨⟨@Bool.or_false,⟨@Bool.or_true,@Bool.true_and⟩⟩,⟨⟨@Bool.true_eq_false,@Bool.true_or⟩,⟨@Int.toNat_zero,@List.all.eq_1.{0}⟩⟩⟩⟩,⟨⟨⟨@List.all.eq_2.{0},⟨@List.any.eq_1.{0},@List.any.eq_2.{0}⟩⟩,⟨⟨@List.append.eq_1.{0},@List.append.eq_2.{0}⟩,⟨@List.append_nil.{0},@List.cons_append.{0}⟩⟩⟩,⟨⟨⟨@List.contains_cons.{0},@List.contains_nil.{0}⟩,⟨@List.drop.eq_1.{0},@List.drop.eq_2.{0}⟩⟩,⟨⟨@List.drop.eq_3.{0},@List.drop_succ_cons.{0}⟩,⟨@List.drop_zero.{0},@List.foldl.eq_1.{0,0}⟩⟩⟩⟩⟩,⟨⟨⟨⟨@List.foldl.eq_2.{0,0},⟨@List.getD.eq_1.{0},@List.getElem?_cons_succ.{0}⟩⟩,⟨⟨@List.getElem?_cons_zero.{0},@List.isEmpty_cons.{0}⟩,⟨@List.length.eq_1.{0},@List.length.eq_2.{0}⟩⟩⟩,⟨⟨@List.length_cons.{0},⟨@List.length_nil.{0},@List.map.eq_1.{0,0}⟩⟩,⟨⟨@List.map.eq_2.{0,0},@List.nil_append.{0}⟩,⟨@List.singleton_append.{0},@List.take.eq_1.{0}⟩⟩⟩⟩,⟨⟨⟨@List.take.eq_2.{0},⟨@List.take.eq_3.{0},@List.take_succ_cons.{0}⟩⟩,⟨⟨@List.take_zero.{0},@Nat.one_mul⟩,⟨@Nat.succ_ne_self,@Nat.zero_mul⟩⟩⟩,⟨⟨⟨@Option.map_some.{0,0},@Option.toList_some.{0}⟩,⟨@St.new.eq_1,@St.new.eq_2⟩⟩,⟨⟨@St.opd.eq_1,@St.opd.eq_2⟩,⟨@St.put.eq_1,@St.put.eq_2⟩⟩⟩⟩⟩⟩,⟨⟨⟨⟨⟨@St.read.eq_1,⟨@St.read.eq_2,@St.read.eq_3⟩⟩,⟨⟨@St.write.eq_1,@St.write.eq_2⟩,⟨@St.write.eq_3,@accEv.eq_1⟩⟩⟩,⟨⟨@accEv.eq_2,⟨@accEv.eq_3,@accEv.eq_4⟩⟩,⟨⟨@accEv.eq_5,@accOf.eq_1⟩,⟨@and_self,@and_true⟩⟩⟩⟩,⟨⟨⟨@argsT.eq_1,⟨@argsT.eq_2,@beq_ff⟩⟩,⟨⟨@beq_ft,@beq_self_eq_true.{0}⟩,⟨@beq_tf,@beq_tt⟩⟩⟩,⟨⟨⟨@bin_and,@bin_andNot⟩,⟨@bin_ieq,@bin_ige⟩⟩,⟨⟨@bin_igt,@bin_ile⟩,⟨@bin_ilt,@bin_ine⟩⟩⟩⟩⟩,⟨⟨⟨⟨@bin_or,⟨@bin_ueq,@bin_ult⟩⟩,⟨⟨@bin_une,@bin_xor⟩,⟨@callWith.eq_1,@careEv.eq_1⟩⟩⟩,⟨⟨⟨@careEv.eq_2,@careEv.eq_3⟩,⟨@careEv.eq_4,@careEv.eq_5⟩⟩,⟨⟨@cellsAt_cons,@cells_U⟩,⟨@cells_agg,@cells_bool⟩⟩⟩⟩,⟨⟨⟨@cells_fn,⟨@cells_int,@cells_map⟩⟩,⟨⟨@cells_nilf,@cells_nilm⟩,⟨@cells_nilp,@cells_nils⟩⟩⟩,⟨⟨⟨@cells_ptr,@cells_slice⟩,⟨@cells_str,@codeEv.eq_1⟩⟩,⟨⟨@codeEv.eq_2,@codeEv.eq_3⟩,⟨@codeEv.eq_4,@codeEv.eq_5⟩⟩⟩⟩⟩⟩⟩,⟨⟨⟨⟨⟨⟨@codeEv.eq_6,⟨@codeEv.eq_7,@codeEv.eq_8⟩⟩,⟨⟨@codeEv.eq_9,@codeEv.eq_10⟩,⟨@codeEv.eq_11,@dOneEv.eq_1⟩⟩⟩,⟨⟨@dOpsEv.eq_1,⟨@dOpsEv.eq_2,@decide_false⟩⟩,⟨⟨@decide_true,@elemR_slice⟩,⟨@fillEv.eq_1,@fillEv.eq_2⟩⟩⟩⟩,⟨⟨⟨@guardEv.eq_1,⟨@guardEv.eq_2,@if_false.{1}⟩⟩,⟨⟨@if_true.{1},@in_U⟩,⟨@in_agg,@in_bool⟩⟩⟩,⟨⟨⟨@in_fn,@in_int⟩,⟨@in_loc,@in_map⟩⟩,⟨⟨@in_nilf,@in_nilm⟩,⟨@in_nilp,@in_nils⟩⟩⟩⟩⟩,⟨⟨⟨⟨@in_ptr,⟨@in_slice,@in_str⟩⟩,⟨⟨@in_tup,@in_unk⟩,⟨@keepL.eq_1,@keepL.eq_2⟩⟩⟩,⟨⟨⟨@keepT_lit,@keepT_setT⟩,⟨@lenR_nils,@lenR_slice⟩⟩,⟨⟨@loc_U,@loc_agg⟩,⟨@loc_bool,@loc_fn⟩⟩⟩⟩,⟨⟨⟨@loc_int,⟨@loc_map,@loc_nilf⟩⟩,⟨⟨@loc_nilm,@loc_nilp⟩,⟨@loc_nils,@loc_ptr⟩⟩⟩,⟨⟨⟨@loc_slice,@loc_str⟩,⟨@loc_tup,@loc_unk⟩⟩,⟨⟨@lookL_cons,@lookL_nil⟩,⟨@look_cons,@look_nil⟩⟩⟩⟩⟩⟩,⟨⟨⟨⟨⟨@look_set,⟨@oneEv.eq_1,@one_U⟩⟩,⟨⟨@one_bool,@one_fn⟩,⟨@one_int,@one_map⟩⟩⟩,⟨⟨@one_nilf,⟨@one_nilm,@one_nilp⟩⟩,⟨⟨@one_nils,@one_ptr⟩,⟨@one_slice,@one_str⟩⟩⟩⟩,⟨⟨⟨@opE_alloc,⟨@opE_app,@opE_bin⟩⟩,⟨⟨@opE_box,@opE_build⟩,⟨@opE_call,@opE_callv⟩⟩⟩,⟨⟨⟨@opE_conv,@opE_eq⟩,⟨@opE_ext,@opE_faddr⟩⟩,⟨⟨@opE_fld,@opE_iaddrL⟩,⟨@opE_idxS,@opE_lenL⟩⟩⟩⟩⟩,⟨⟨⟨⟨@opE_load1,⟨@opE_loadk,@opE_max⟩⟩,⟨⟨@opE_min,@opE_mkfn⟩,⟨@opE_mov,@opE_pick⟩⟩⟩,⟨⟨⟨@opE_store,@opE_un⟩,⟨@opsEv.eq_1,@opsEv.eq_2⟩⟩,⟨⟨@resEv.eq_1,@resEv.eq_2⟩,⟨@resEv.eq_3,@resEv.eq_4⟩⟩⟩⟩,⟨⟨⟨@scrub.eq_1,⟨@scrub.eq_2,@scrub.eq_3⟩⟩,⟨⟨@setL_cons,@setL_nil⟩,⟨@splice.eq_1,@str_eqg⟩⟩⟩,⟨⟨⟨@str_ne,@true_and⟩,⟨@u_0,@u_1⟩⟩,⟨⟨@unEv.eq_1,@unEv.eq_2⟩,⟨@unEv.eq_3,@unEv.eq_4⟩⟩⟩⟩⟩⟩⟩⟩
end AG
