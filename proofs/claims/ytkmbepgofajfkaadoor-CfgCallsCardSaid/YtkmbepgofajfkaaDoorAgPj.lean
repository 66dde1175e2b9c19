/- What the functions that read images and paths compute, and the laws of that. -/
import Derived.Test.YtkmbepgofajfkaaDoorAgPi
namespace AG
open Go Go.Proofs.YtkmbepgofajfkaaDoor
set_option maxRecDepth 100000
set_option maxHeartbeats 4000000
noncomputable def mkR (sz bytes:Nat) (z:List AV) (a b:AV) (s:St):Option (AV×St):=match a,b with
 | .int _ l,.int _ c=>
  if 0≤l∧l≤c∧c≤2 ^ 40∧bytes*c≤2 ^ 47 then
   if s.m.full then none else
   some (.slice s.m.n 0 l.toNat (some c.toNat) sz,{ s with m:=s.m.push (.cells (zerosEv z (c.toNat*sz)) true) })
  else none
 | _,_=>none
theorem opE_make (call:Caller) (s:St) (sz bytes:Nat) (z:List AV) (l c:Opd):opEv call (.make sz bytes z l c) s=mkR sz bytes z (s.opd l) (s.opd c) s:=rfl
theorem zeros_rep (v:AV) (n:Nat):zerosEv [v] n=List.replicate n v:=by
 unfold zerosEv
 apply List.ext_getElem?
 intro i
 rw [List.getElem?_map]
 by_cases hi:i < n
 ·rw [List.getElem?_range hi]
  simp [hi,Nat.mod_one]
 ·rw [List.getElem?_eq_none (by simp; omega),List.getElem?_eq_none (by simp; omega)]
  rfl
theorem mkR_u8 (sn:Nat) (t:List (Nat×AV)) (q:List (Nat×List AV)) (m:Mem) (n:Nat) (hn:n≤1000000) (hf:m.full=false):mkR 1 1 [.int .u8 0] (.int .i64 (n:Int)) (.int .i64 (n:Int)) ⟨sn,t,q,m⟩=some (.slice m.n 0 n (some n) 1,⟨sn,t,q,m.push (.cells (u8s (List.replicate n 0)) true)⟩):=by
 unfold mkR
 have h1:(0:Int)≤n∧(n:Int)≤n∧(n:Int)≤2 ^ 40∧((1:Nat):Int)*n≤2 ^ 47:=by omega
 dsimp only
 rw [if_pos h1,hf,if_neg (by simp),Int.toNat_natCast,Nat.mul_one,zeros_rep]
 unfold u8s
 rw [List.map_replicate]
 rfl
theorem OS.low {c n0 n1:Nat} {m:Mem} {v:AV} {cs:List AV} {n:Nat} (h:OS c n0 m v cs n) (k:n1≤n0):OS c n1 m v cs n:=by
 rcases h with h | ⟨b,h0,rfl,h1,h2⟩
 ·exact .inl h
 ·exact .inr ⟨b,by omega,rfl,h1,h2⟩
def wayS (M:Img) (e:Nat):DS:=visP (nextAt M) M.code.length e ⟨List.replicate M.code.length 0,[],[]⟩
theorem whites_rep (n:Nat):whites (List.replicate n 0)=n:=by
 unfold whites
 rw [List.filter_eq_self.2 (fun x hx=>by rw [(List.mem_replicate.1 hx).2]; rfl),List.length_replicate]
theorem walk_run (N:Nat) (m:Mem) (I:ImV) (M:Img) (hm:IM m I M) (hT:Tab m) (m0:Mem) (NC KC:Nat) (hck:CkOk m0 I M NC KC 54 0) (he:Ext m0 m) (hco:CodesOk M) (hin:NextIn M) (hlc:M.code.length≤20000) (f:Nat) (hf:f < M.funcs.length) (hfr:0≤fromP M f∧fromP M f < (M.code.length:Int))
  (hmn:m.n+KC+40*M.code.length+60≤2 ^ depth) (hN:NC+8*M.code.length+60≤N):
  ∃ va vb m',run A N 78 [.agg (ic I M),.int .i64 (f:Int)] m=some (.tup [va,vb],m')∧OS 1 m.n m' va ((wayS M (fromP M f).toNat).l.map fun z=>AV.int .i64 z) (wayS M (fromP M f).toNat).l.length∧OS 2 m.n m' vb ((wayS M (fromP M f).toNat).b.flatMap prow) (wayS M (fromP M f).toNat).b.length∧(∀ k,blkOf va=some k→blkOf vb≠some k)∧Gr m m' (KC+40*M.code.length+10)∧(wayS M (fromP M f).toNat).l.length≤M.code.length∧(wayS M (fromP M f).toNat).b.length≤2*M.code.length:=by
 obtain ⟨n,rfl⟩:∃ n,N=n+1:=⟨N - 1,by omega⟩
 have hP:=hm.pls
 have hf0:=not_full (m:=m) (by omega)
 have x1:Ext m (m.push (.cells (ic I M) true)):=(Ext.refl m).push _ (by omega)
 have f1:=not_full (m:=m.push (.cells (ic I M) true)) (by rw [push_n]; omega)
 have x2:Ext m ((m.push (.cells (ic I M) true)).push (.cells [.nils] true)):=x1.push _ (by rw [push_n]; omega)
 have f2:=not_full (m:=(m.push (.cells (ic I M) true)).push (.cells [.nils] true)) (by rw [push_n,push_n]; omega)
 have x3:Ext m (((m.push (.cells (ic I M) true)).push (.cells [.nils] true)).push (.cells [.nils] true)):=x2.push _ (by rw [push_n,push_n]; omega)
 have n1:(((m.push (.cells (ic I M) true)).push (.cells [.nils] true)).push (.cells [.nils] true)).n=m.n+3:=by rw [push_n,push_n,push_n]
 have g0:(((m.push (.cells (ic I M) true)).push (.cells [.nils] true)).push (.cells [.nils] true)).get m.n=some (.cells (ic I M) true):=(Mem.get_push_old _ f2 (by rw [push_n,push_n]; omega)).trans ((Mem.get_push_old _ f1 (by rw [push_n]; omega)).trans (Mem.get_push_new _))
 have g1:(((m.push (.cells (ic I M) true)).push (.cells [.nils] true)).push (.cells [.nils] true)).get (m.n+1)=some (.cells [.nils] true):=by
  have:=Mem.get_push_new (m:=m.push (.cells (ic I M) true)) (.cells [.nils] true)
  rw [push_n] at this
  exact (Mem.get_push_old _ f2 (by rw [push_n,push_n]; omega)).trans this
 have g2:(((m.push (.cells (ic I M) true)).push (.cells [.nils] true)).push (.cells [.nils] true)).get (m.n+2)=some (.cells [.nils] true):=by
  have:=Mem.get_push_new (m:=(m.push (.cells (ic I M) true)).push (.cells [.nils] true)) (.cells [.nils] true)
  rw [push_n,push_n] at this
  exact this
 have hp1:((m.push (.cells (ic I M) true)).push (.cells [.nils] true)).n=m.n+2:=by rw [push_n,push_n]
 generalize hm1:((m.push (.cells (ic I M) true)).push (.cells [.nils] true)).push (.cells [.nils] true)=m1 at*
 have d1:decide ((f:Int) < 0)=false:=decide_eq_false (by omega)
 have d2:decide ((M.funcs.length:Int)≤(f:Int))=false:=decide_eq_false (by omega)
 obtain ⟨m2,hc,hg2⟩:=hck n m1 (by omega) (he.trans x3) (by omega)
 have hn2:=hg2.2
 have hn2':=hg2.1.1
 have h0:=(hg2.1.2 m.n (by omega)).trans g0
 have h1:=(hg2.1.2 (m.n+1) (by omega)).trans g1
 have h2:=(hg2.1.2 (m.n+2) (by omega)).trans g2
 have f3:=not_full (m:=m2) (by omega)
 have hmk:=fun sn t q=>mkR_u8 sn t q m2 M.code.length (by omega) f3
 have y1:Ext m2 (m2.push (.cells (u8s (List.replicate M.code.length 0)) true)):=(Ext.refl m2).push _ (by omega)
 have f4:=not_full (m:=m2.push (.cells (u8s (List.replicate M.code.length 0)) true)) (by rw [push_n]; omega)
 have y2:=y1.push (.cells [.nils] true) (by rw [push_n]; omega)
 have p1:((m2.push (.cells (u8s (List.replicate M.code.length 0)) true)).push (.cells [.nils] true)).n=m2.n+2:=by rw [push_n,push_n]
 have c0:((m2.push (.cells (u8s (List.replicate M.code.length 0)) true)).push (.cells [.nils] true)).get m2.n=some (.cells (u8s (List.replicate M.code.length 0)) true):=(Mem.get_push_old _ f4 (by rw [push_n]; omega)).trans (Mem.get_push_new _)
 have c1:((m2.push (.cells (u8s (List.replicate M.code.length 0)) true)).push (.cells [.nils] true)).get (m2.n+1)=some (.cells [.nils] true):=by
  have:=Mem.get_push_new (m:=m2.push (.cells (u8s (List.replicate M.code.length 0)) true)) (.cells [.nils] true)
  rw [push_n] at this
  exact this
 generalize hm3:(m2.push (.cells (u8s (List.replicate M.code.length 0)) true)).push (.cells [.nils] true)=m3 at*
 have hle3:m3.n≤2 ^ depth:=by omega
 have s3:∀ i,i≠m2.n+1→(m3.set (m2.n+1) (.cells [.slice m2.n 0 M.code.length (some M.code.length) 1] true)).get i=m3.get i:=fun i hi=>Mem.get_set_ne _ hle3 (by omega) (fun e=>hi e.symm)
 have c1':(m3.set (m2.n+1) (.cells [.slice m2.n 0 M.code.length (some M.code.length) 1] true)).get (m2.n+1)=some (.cells [.slice m2.n 0 M.code.length (some M.code.length) 1] true):=Mem.get_set_same _ (by omega)
 have n4:(m3.set (m2.n+1) (.cells [.slice m2.n 0 M.code.length (some M.code.length) 1] true)).n=m2.n+2:=by rw [set_n]; omega
 generalize hm4:m3.set (m2.n+1) (.cells [.slice m2.n 0 M.code.length (some M.code.length) 1] true)=m4 at*
 have f5:=not_full (m:=m4) (by omega)
 have y5:Ext m4 (m4.push (.cells [.nilf] true)):=(Ext.refl m4).push _ (by omega)
 have p5:(m4.push (.cells [.nilf] true)).n=m2.n+3:=by rw [push_n]; omega
 have c3:(m4.push (.cells [.nilf] true)).get (m2.n+2)=some (.cells [.nilf] true):=by
  have:=Mem.get_push_new (m:=m4) (.cells [.nilf] true)
  rw [n4] at this
  exact this
 generalize hm5:m4.push (.cells [.nilf] true)=m5 at*
 have hle5:m5.n≤2 ^ depth:=by omega
 have s5:∀ i,i≠m2.n+2→(m5.set (m2.n+2) (.cells [.fn 113 [.ptr (m2.n+1) 0,.ptr m.n 0,.ptr (m2.n+2) 0,.ptr (m.n+2) 0,.ptr (m.n+1) 0]] true)).get i=m5.get i:=fun i hi=>Mem.get_set_ne _ hle5 (by omega) (fun e=>hi e.symm)
 have c3':(m5.set (m2.n+2) (.cells [.fn 113 [.ptr (m2.n+1) 0,.ptr m.n 0,.ptr (m2.n+2) 0,.ptr (m.n+2) 0,.ptr (m.n+1) 0]] true)).get (m2.n+2)=some (.cells [.fn 113 [.ptr (m2.n+1) 0,.ptr m.n 0,.ptr (m2.n+2) 0,.ptr (m.n+2) 0,.ptr (m.n+1) 0]] true):=Mem.get_set_same _ (by omega)
 have n6:(m5.set (m2.n+2) (.cells [.fn 113 [.ptr (m2.n+1) 0,.ptr m.n 0,.ptr (m2.n+2) 0,.ptr (m.n+2) 0,.ptr (m.n+1) 0]] true)).n=m2.n+3:=by rw [set_n]; omega
 generalize hm6:m5.set (m2.n+2) (.cells [.fn 113 [.ptr (m2.n+1) 0,.ptr m.n 0,.ptr (m2.n+2) 0,.ptr (m.n+2) 0,.ptr (m.n+1) 0]] true)=m6 at*
 have up:∀ i,i < m2.n→m6.get i=m2.get i:=fun i hi=>(s5 i (by omega)).trans ((y5.2 i (by omega)).trans ((s3 i (by omega)).trans (y2.2 i hi)))
 have x6:Ext m m6:=⟨by have:=x3.1; omega,fun i hi=>(up i (by omega)).trans ((hg2.1.2 i (by omega)).trans (x3.2 i hi))⟩
 obtain ⟨x,hx⟩:∃ x,M.funcs[f]?=some x:=⟨_,List.getElem?_eq_getElem hf⟩
 obtain ⟨b7,o7,cs7,ow7,e1,e2,_,e3,_,_⟩:=(hm.ext x6).f.ff hx
 have hent:fromP M f=x.entry:=by unfold fromP; rw [hx]; rfl
 obtain ⟨a,ha⟩:∃ j:Nat,x.entry=(j:Int):=⟨x.entry.toNat,by rw [hent] at hfr; omega⟩
 have hwr:=whites_rep M.code.length
 have hvm:VM m I M ⟨m2.n+1,m.n,m2.n+2,m.n+2,m.n+1,m2.n,m2.n+3⟩ m6 .nils .nils ⟨List.replicate M.code.length 0,[],[]⟩:={
  ext:=x6
  lo:=by dsimp only; omega
  hi:=by dsimp only; omega
  ne4:=by dsimp only; omega
  ne5:=by dsimp only; omega
  nec:=by dsimp only; omega
  nn:=by dsimp only; omega
  g1:=by dsimp only; rw [List.length_replicate]; exact (s5 _ (by omega)).trans ((y5.2 _ (by omega)).trans c1')
  g2:=(up _ (by dsimp only; omega)).trans h0
  g3:=c3'
  g4:=(up _ (by dsimp only; omega)).trans h2
  g5:=(up _ (by dsimp only; omega)).trans h1
  gc:=(s5 _ (by dsimp only; omega)).trans ((y5.2 _ (by dsimp only; omega)).trans ((s3 _ (by dsimp only; omega)).trans c0))
  ol:=.inl ⟨rfl,rfl,rfl⟩
  ob:=.inl ⟨rfl,rfl,rfl⟩
  nab:=fun k hk=>by cases hk }
 rw [hent] at hfr ⊢
 rw [ha] at hfr ⊢
 rw [Int.toNat_natCast]
 obtain ⟨m7,va,vb,hr,hv7,st7,w1,w2,w3,w4,w5⟩:=vis_run m I M hm hT hco hin (by omega) ⟨m2.n+1,m.n,m2.n+2,m.n+2,m.n+1,m2.n,m2.n+3⟩ M.code.length n m6 .nils .nils ⟨List.replicate M.code.length 0,[],[]⟩ a (by omega) hvm (by simp) (by rw [hwr]; exact Nat.le_refl _) (by dsimp only; rw [List.getElem?_replicate,if_pos (by omega)]) (by rw [hwr]; omega) (by rw [hwr]; simp; omega) (by rw [hwr]; simp; omega)
 dsimp only at hr
 rw [hwr] at w2 w3 w4 w5
 dsimp only at w2 w3 w4 w5
 rw [List.length_nil,Nat.zero_add] at w3 w4
 have k4:=hv7.g4
 have k5:=hv7.g5
 dsimp only at k4 k5
 obtain ⟨a1,a2,a3,a4⟩:=hv7.ol.plain
 obtain ⟨b1,b2,b3,b4⟩:=hv7.ob.plain
 have hn7:=hv7.nn
 dsimp only at hn7
 have hst:=st7.1.1
 have hn7m:m7.n≤2 ^ depth:=by omega
 have l1:m.n+1 < m7.n:=by omega
 have l2:m.n+2 < (m7.set (m.n+1) (.cells [va] true)).n:=by rw [set_n]; omega
 have hn8:(m7.set (m.n+1) (.cells [va] true)).n≤2 ^ depth:=by rw [set_n]; exact hn7m
 have r4:(m7.set (m.n+1) (.cells [va] true)).get (m.n+2)=some (.cells [vb] true):=(Mem.get_set_ne _ hn7m l1 (by omega)).trans k4
 have r5:((m7.set (m.n+1) (.cells [va] true)).set (m.n+2) (.cells [vb] true)).get (m.n+1)=some (.cells [va] true):=(Mem.get_set_ne _ hn8 l2 (by omega)).trans (Mem.get_set_same _ l1)
 have r6:((m7.set (m.n+1) (.cells [va] true)).set (m.n+2) (.cells [vb] true)).get (m.n+2)=some (.cells [vb] true):=Mem.get_set_same _ l2
 have ks:∀ i,i≠m.n+1→i≠m.n+2→((m7.set (m.n+1) (.cells [va] true)).set (m.n+2) (.cells [vb] true)).get i=m7.get i:=fun i h1 h2=>(Mem.get_set_ne _ hn8 l2 (fun e=>h2 e.symm)).trans (Mem.get_set_ne _ hn7m l1 (fun e=>h1 e.symm))
 have hlog:logOk [Acc.rw (.ptr (m.n+2) 0) 1 false,Acc.rw (.ptr (m.n+1) 0) 1 true]=true:=by
  simp [logOk,accFit,disj]
  exact ⟨⟨by omega,by omega⟩,by omega,by omega⟩
 have h60:m6.get m.n=some (.cells (ic I M) true):=(up _ (by omega)).trans h0
 have h11:m.n+1+1=m.n+2:=rfl
 have hol:=hv7.ol.blk
 have hob:=hv7.ob.blk
 refine ⟨va,vb,(m7.set (m.n+1) (.cells [va] true)).set (m.n+2) (.cells [vb] true),?_,?_,?_,hv7.nab,?_,?_,?_⟩
 ·rw [run_78]
  unfold fnEv a78
  simp only [KK,Nat.reduceEqDiff,Nat.reduceAdd,Nat.reduceLeDiff,Nat.reduceLT,AOp.kd,kd_rm,kd_sm,logOk_nil',push_n,hP,hf0,f1,f2,push_n,hm1,g0,h11,n4,d1,d2,hc,h0,h1,opE_make,hmk,f4,hm3,c1,hm4,f5,hm5,c3,c3',hm6,h60,e1,e2,e3,ha,hr,k4,k5,a2,a3,a4,b2,b3,b4,r4,r5,r6,hlog]
 ·exact (hv7.ol.keep fun b hb=>ks b (by have:=(hol b hb).1; dsimp only at this; omega) (by have:=(hol b hb).1; dsimp only at this; omega)).low (by dsimp only; omega)
 ·exact (hv7.ob.keep fun b hb=>ks b (by have:=(hob b hb).1; dsimp only at this; omega) (by have:=(hob b hb).1; dsimp only at this; omega)).low (by dsimp only; omega)
 ·exact ⟨⟨by rw [set_n,set_n]; omega,fun i hi=>(ks i (by omega) (by omega)).trans (hv7.ext.2 i hi)⟩,by rw [set_n,set_n]; omega⟩
 ·unfold wayS; omega
 ·unfold wayS; omega
open Go
theorem ints_at {l:List Int} {i:Nat} {x:Int} (h:l[i]?=some x):cellsAt (l.map fun z=>AV.int .i64 z) (0+i) 1=some [.int .i64 x]:=by
 rw [Nat.zero_add]
 exact cells_one (by rw [List.getElem?_map,h]; rfl)
theorem ints_set (l:List Int) (i:Nat) (x:Int) (h:i < l.length):List.take (0+i) (l.map fun z=>AV.int .i64 z)++[AV.int .i64 x]++List.drop (0+i+1) (l.map fun z=>AV.int .i64 z)=(l.set i x).map fun z=>AV.int .i64 z:=by
 rw [Nat.zero_add,List.map_set,List.set_eq_take_append_cons_drop,if_pos (by simpa using h)]
 simp
def revI (l:List Int) (i:Nat):List Int:=(List.range l.length).map fun p=>if p < i∨l.length - 1 - p < i then l.getD (l.length - 1 - p) 0 else l.getD p 0
theorem revI_len (l:List Int) (i:Nat):(revI l i).length=l.length:=by simp [revI]
theorem revI_get (l:List Int) (i p:Nat) (h:p < l.length):(revI l i)[p]?=some (if p < i∨l.length - 1 - p < i then l.getD (l.length - 1 - p) 0 else l.getD p 0):=by
 unfold revI
 rw [List.getElem?_map,List.getElem?_range h]
 rfl
theorem revI_zero (l:List Int):revI l 0=l:=by
 apply List.ext_getElem?
 intro p
 by_cases h:p < l.length
 ·rw [revI_get l 0 p h,if_neg (by omega),List.getElem?_eq_getElem h]
  simp [List.getD,h]
 ·rw [List.getElem?_eq_none (by rw [revI_len]; omega),List.getElem?_eq_none (by omega)]
theorem revI_end (l:List Int):revI l (l.length / 2)=l.reverse:=by
 apply List.ext_getElem?
 intro p
 by_cases h:p < l.length
 ·rw [revI_get l _ p h,List.getElem?_reverse h]
  split
  ·simp [List.getD,show l.length - 1 - p < l.length by omega]
  ·have e:l.length - 1 - p=p:=by omega
   rw [e]
   simp [List.getD,h]
 ·rw [List.getElem?_eq_none (by rw [revI_len]; omega),List.getElem?_eq_none (by simp; omega)]
theorem revI_step (l:List Int) (i:Nat) (x y:Int) (h:i < l.length - 1 - i) (hx:(revI l i)[i]?=some x) (hy:(revI l i)[l.length - 1 - i]?=some y):((revI l i).set i y).set (l.length - 1 - i) x=revI l (i+1):=by
 rw [revI_get l i i (by omega),if_neg (by omega)] at hx
 rw [revI_get l i _ (by omega),if_neg (by omega)] at hy
 simp only [Option.some.injEq] at hx hy
 apply List.ext_getElem?
 intro p
 rw [List.getElem?_set,List.getElem?_set]
 by_cases hp:p < l.length
 ·rw [revI_get l (i+1) p hp]
  by_cases h1:l.length - 1 - i=p
  ·subst h1
   rw [if_pos rfl,if_pos (by rw [List.length_set,revI_len]; omega),if_pos (by omega),show l.length - 1 - (l.length - 1 - i)=i by omega,hx]
  ·rw [if_neg h1]
   by_cases h2:i=p
   ·subst h2
    rw [if_pos rfl,if_pos (by rw [revI_len]; omega),if_pos (by omega),hy]
   ·rw [if_neg h2,revI_get l i p hp]
    congr 1
    by_cases h3:p < i∨l.length - 1 - p < i
    ·rw [if_pos h3,if_pos (by omega)]
    ·rw [if_neg h3,if_neg (by omega)]
 ·rw [if_neg (by omega),if_neg (by omega),List.getElem?_eq_none (by rw [revI_len]; omega),List.getElem?_eq_none (by rw [revI_len]; omega)]
theorem reverse_run (N:Nat) (m:Mem) (n0:Nat) (v:AV) (l:List Int) (hv:IS n0 m v l) (hl:l.length≤100000) (hm:m.n≤2 ^ depth) (hN:l.length+10≤N):
  ∃ m',run A N 84 [v] m=some (.tup [],m')∧IS n0 m' v l.reverse∧m'.n=m.n∧(∀ i,blkOf v≠some i→m'.get i=m.get i):=by
 obtain ⟨n,rfl⟩:∃ n,N=n+1:=⟨N - 1,by omega⟩
 rcases hv with ⟨rfl,h1,h2⟩ | ⟨b,h0,rfl,hg,hcl⟩
 ·have hl0:l=[]:=List.length_eq_zero_iff.1 h2
  subst hl0
  have hsb:binEv .sub (.int .i64 0) (.int .i64 1)=some (.int .i64 (-1)):=rfl
  have hlt:¬((0:Int) < -1):=by omega
  refine ⟨m,?_,IS.nil n0 m,rfl,fun _ _=>rfl⟩
  rw [run_84]
  unfold fnEv a84
  simp only [KK,Nat.reduceEqDiff,Nat.reduceAdd,Nat.reduceLT,hsb]
  rw [a84_L1_step]
  unfold a84_B1
  simp only [KK,Nat.reduceEqDiff,Nat.reduceLT,hlt]
 ·have _h':=hcl
  by_cases hl0:l.length=0
  ·have hl1:l=[]:=List.length_eq_zero_iff.1 hl0
   subst hl1
   have hsb:binEv .sub (.int .i64 ((0:Nat):Int)) (.int .i64 1)=some (.int .i64 (-1)):=rfl
   have hlt:¬((0:Int) < -1):=by omega
   refine ⟨m,?_,.inr ⟨b,h0,rfl,hg,hcl⟩,rfl,fun _ _=>rfl⟩
   rw [run_84]
   unfold fnEv a84
   simp only [KK,Nat.reduceEqDiff,Nat.reduceAdd,Nat.reduceLT,hsb]
   rw [a84_L1_step]
   unfold a84_B1
   simp only [KK,Nat.reduceEqDiff,Nat.reduceLT,hlt]
  ·have hsb:=sub_1 l.length hl0 (by omega)
   have hblt:=Mem.get_lt hg
   rw [run_84]
   unfold fnEv a84
   simp only [KK,Nat.reduceEqDiff,Nat.reduceAdd,Nat.reduceLT,hsb]
   generalize hq:codeEv (run A n) (ev A n).2 a84_L1 _=q
   have h:=scan0 (A:=A) a84_L1 a84_B1 a84_L1_step (fun i (_:Unit) s=>∃ T L m',s=⟨28,T,L,m'⟩∧keepT [0,2,3] [] T=[(0,.slice b 0 l.length none 1),(2,.int .i64 (i:Int)),(3,.int .i64 ((l.length - 1 - i:Nat):Int))]∧m'.get b=some (.cells ((revI l i).map fun z=>AV.int .i64 z) true)∧m'.n=m.n∧∀ j,j≠b→m'.get j=m.get j)
    (fun _ s=>∃ T L m',s=⟨28,T,L,m'⟩∧m'.get b=some (.cells (l.reverse.map fun z=>AV.int .i64 z) true)∧m'.n=m.n∧∀ j,j≠b→m'.get j=m.get j) (fun (_:Unit) _=>False) 0 1 (fun _ (_:Nat) (_:Unit)=>Stp.go ()) (List.range (l.length / 2))
    (fun N _ s hN ⟨T,L,m',hs,hk,hb,hn,ho⟩=>by
     subst hs
     rw [List.length_range] at hk hb
     rw [revI_end] at hb
     have h':¬(((l.length / 2:Nat):Int) < ((l.length - 1 - l.length / 2:Nat):Int)):=by omega
     unfold a84_B1
     exact ⟨_,by simp only [KK,Nat.reduceEqDiff,Nat.reduceLT,hk,h']; rfl,_,_,m',rfl,hb,hn,ho⟩)
    (fun N i x _ s hN hx ⟨T,L,m',hs,hk,hb,hn,ho⟩=>by
     subst hs
     have hi:i < l.length / 2:=by have:=(List.getElem?_eq_some_iff.1 hx).1; rwa [List.length_range] at this
     have hij:i < l.length - 1 - i:=by omega
     have h':(i:Int) < ((l.length - 1 - i:Nat):Int):=by omega
     have hi0:0≤(i:Int)∧(i:Int) < (l.length:Int):=by omega
     have hj0:0≤((l.length - 1 - i:Nat):Int)∧((l.length - 1 - i:Nat):Int) < (l.length:Int):=by omega
     obtain ⟨x,hx⟩:∃ x,(revI l i)[i]?=some x:=⟨_,revI_get l i i (by omega)⟩
     obtain ⟨y,hy⟩:∃ y,(revI l i)[l.length - 1 - i]?=some y:=⟨_,revI_get l i _ (by omega)⟩
     have c1:=ints_at hx
     have c2:=ints_at hy
     have e1:=ints_set (revI l i) i y (by rw [revI_len]; omega)
     have e2:=ints_set ((revI l i).set i y) (l.length - 1 - i) x (by rw [List.length_set,revI_len]; omega)
     rw [revI_step l i x y hij hx hy] at e2
     have l1:0+i+1≤((revI l i).map fun z=>AV.int .i64 z).length:=by rw [List.length_map,revI_len]; omega
     have l2:0+(l.length - 1 - i)+1≤(((revI l i).set i y).map fun z=>AV.int .i64 z).length:=by rw [List.length_map,List.length_set,revI_len]; omega
     have a1:=add_i i (by omega)
     have a2:=sub_1 (l.length - 1 - i) (by omega) (by omega)
     have e3:l.length - 1 - i - 1=l.length - 1 - (i+1):=by omega
     rw [e3] at a2
     have hbm:b < m'.n:=Mem.get_lt hb
     have hle:m'.n≤2 ^ depth:=by omega
     have g1:=Mem.get_set_same (m:=m') (.cells (((revI l i).set i y).map fun z=>AV.int .i64 z) true) hbm
     have g2:=Mem.get_set_same (m:=m'.set b (.cells (((revI l i).set i y).map fun z=>AV.int .i64 z) true)) (.cells ((revI l (i+1)).map fun z=>AV.int .i64 z) true) (by rw [set_n]; exact hbm)
     unfold a84_B1
     exact ⟨_,by simp only [KK,Nat.reduceEqDiff,Nat.reduceAdd,Nat.reduceLT,Int.toNat_natCast,Nat.mul_one,AOp.kd,kd_rm,kd_sm,logOk_nil',hk,h',hi0,hj0,hb,c1,c2,l1,e1,g1,l2,e2,a1,a2]; rfl,_,_,_,rfl,by simp only [keepT,List.map,look_set,look_cons,in_int,in_slice,Nat.reduceEqDiff,if_true,if_false],g2,by rw [set_n,set_n]; exact hn,fun j hj=>(Mem.get_set_ne _ (by rw [set_n]; exact hle) (by rw [set_n]; exact hbm) (fun e=>hj e.symm)).trans ((Mem.get_set_ne _ hle hbm (fun e=>hj e.symm)).trans (ho j hj))⟩)
    n () _ (by rw [List.length_range]; omega) ⟨_,_,m,rfl,by simp only [keepT,List.map,look_set,look_cons,in_int,in_slice,Nat.reduceEqDiff,if_true,if_false]; rfl,by rw [revI_zero]; exact hg,rfl,fun _ _=>rfl⟩ hq
   have hfold:∀ (L:List Nat) (k:Nat),foldS (fun _ (_:Nat) (_:Unit)=>(Stp.go ():Stp Unit Unit)) L k ()=.inl ():=by
    intro L
    induction L with
    | nil=>intro k; rfl
    | cons a r ih=>intro k; exact ih (k+1)
   rw [hfold] at h
   obtain ⟨s',rfl,T,L,m',rfl,hb,hn,ho⟩:=h
   exact ⟨m',by simp only [if_true],.inr ⟨b,h0,by rw [List.length_reverse],hb,by simp⟩,hn,fun i hi=>ho i (fun e=>hi (by rw [e]; rfl))⟩
open Go
theorem flat_prow:∀ l:List (Int×Int),l.flatMap prow=(flatP l).map fun z=>AV.int .i64 z
 | []=>rfl
 | p::r=>by rw [List.flatMap_cons,flat_prow r]; rfl
theorem sortf_at (n:Nat) {n0:Nat} {m:Mem} {v:AV} {ps:List (Int×Int)} (h:OS 2 n0 m v (ps.flatMap prow) ps.length) (hm:m.n≤2 ^ depth) (hz6:ps.length≤1000000):
  ∃ m',run A (n+1) 80 [v,.fn 81 []] m=some (.tup [],m')∧OS 2 n0 m' v ((sortP ps).flatMap prow) (sortP ps).length∧m'.n=m.n∧(∀ i,i < n0→m'.get i=m.get i):=by
 rw [run_80]
 unfold fnEv a80 primFn
 try dsimp only
 rcases h with ⟨rfl,h1,h2⟩ | ⟨b,h0,rfl,h1,h2⟩
 ·have:ps=[]:=List.length_eq_zero_iff.1 h2
  subst this
  exact ⟨m,rfl,.inl ⟨rfl,by unfold sortP; simp,by unfold sortP; simp⟩,rfl,fun _ _=>rfl⟩
 ·have hb:=Mem.get_lt h1
  by_cases hz:ps.length=0
  ·have:ps=[]:=List.length_eq_zero_iff.1 hz
   subst this
   exact ⟨m,rfl,.inr ⟨b,h0,by rw [sortP_len],by unfold sortP; simpa using h1,by unfold sortP; simp⟩,rfl,fun _ _=>rfl⟩
  ·rw [flat_prow] at h1
   have hc:cellsAt ((flatP ps).map fun z=>AV.int .i64 z) 0 (2*ps.length)=some ((flatP ps).map fun z=>AV.int .i64 z):=by
    unfold cellsAt
    rw [if_pos (by rw [List.length_map,flatP_len]; omega),List.drop_zero,List.take_of_length_le (by rw [List.length_map,flatP_len]; omega)]
   refine ⟨m.set b (.cells ((flatP (sortP ps)).map fun z=>AV.int .i64 z) true),?_,.inr ⟨b,h0,by rw [sortP_len],by rw [flat_prow]; exact Mem.get_set_same _ hb,by rw [flat_prow,List.length_map,flatP_len]; omega⟩,rfl,fun i hi=>Mem.get_set_ne _ hm hb (by omega)⟩
   unfold sortfEv ownInts
   have hz7:¬1000000 < ps.length:=by omega
   simp only [and_self,if_true,hz,hz7,if_false,h1,hc,intsOf_map,Option.map_some,pairs_flat]
   congr 3
   unfold splice
   have e:((flatP (sortP ps)).map fun z=>AV.int .i64 z).length=((flatP ps).map fun z=>AV.int .i64 z).length:=by
    rw [List.length_map,List.length_map,flatP_len,flatP_len,sortP_len]
   rw [List.take_zero,List.nil_append,Nat.zero_add,e,List.drop_length,List.append_nil]
open Go
open Go
theorem cells_two {cs:List AV} {a n k:Nat} {x y:List AV} (h1:cellsAt cs a n=some x) (h2:cellsAt cs (a+n) k=some y):cellsAt cs a (n+k)=some (x++y):=by
 unfold cellsAt at*
 split at h1
 rotate_left
 ·cases h1
 split at h2
 rotate_left
 ·cases h2
 simp only [Option.some.injEq] at h1 h2
 rw [if_pos (by omega),←h1,←h2,List.take_add,List.drop_drop]
theorem rows_cells {α:Type} (f:α→List AV) (c:Nat) (cs:List AV) (o:Nat):∀ (l:List α) (k:Nat),(∀ (i:Nat) (x:α),l[i]?=some x→cellsAt cs (o+(k+i)*c) c=some (f x))→0 < l.length→cellsAt cs (o+k*c) (l.length*c)=some (l.flatMap f)
 | [],_,_,h=>by cases h
 | [x],k,h,_=>by
  have:=h 0 x rfl
  rw [Nat.add_zero] at this
  simpa using this
 | x::y::r,k,h,_=>by
  have h1:=h 0 x rfl
  rw [Nat.add_zero] at h1
  have h2:=rows_cells f c cs o (y::r) (k+1) (fun i w hw=>by
   have:=h (i+1) w (by simpa using hw)
   rwa [show k+(i+1)=k+1+i by omega] at this) (by simp)
  rw [show o+(k+1)*c=o+k*c+c by rw [Nat.add_mul,Nat.one_mul]; omega] at h2
  have h3:=cells_two h1 h2
  rw [List.flatMap_cons]
  rw [show (x::y::r).length*c=c+(y::r).length*c by rw [List.length_cons,Nat.add_mul,Nat.one_mul]; omega]
  exact h3
theorem RS.elems {α:Type} {f:α→List AV} {c:Nat} {m:Mem} {v:AV} {l:List α} (h:RS f c m v l) (sn:Nat) (t:List (Nat×AV)) (q:List (Nat×List AV)):v.elems ⟨sn,t,q,m⟩ c=some (l.length,l.flatMap f):=by
 rcases h with ⟨rfl,rfl⟩ | ⟨b,o,cap,e,rfl,h⟩
 ·rfl
 ·by_cases hl:l.length=0
  ·have:l=[]:=List.length_eq_zero_iff.1 hl
   subst this
   rfl
  ·simp only [AV.elems,hl,if_false]
   obtain ⟨cs,ow,g1,_⟩:=h 0 l[0] (by rw [List.getElem?_eq_getElem (by omega)])
   rw [g1]
   dsimp only
   have hc:=rows_cells f c cs o l 0 (fun i x hx=>by
    obtain ⟨cs',ow',g1',g2'⟩:=h i x hx
    rw [g1] at g1'
    cases g1'
    rw [Nat.zero_add]
    exact g2') (by omega)
   rw [Nat.zero_mul,Nat.add_zero] at hc
   rw [hc]
theorem CkOk.le {m0:Mem} {I:ImV} {M:Img} {NC KC NC' KC' f:Nat} {c:Int} (h:CkOk m0 I M NC KC f c) (h1:NC≤NC') (h2:KC≤KC'):CkOk m0 I M NC' KC' f c:=fun N m a b d=>by
 obtain ⟨m',hr,hg⟩:=h N m (by omega) b (by omega)
 exact ⟨m',hr,hg.le h2⟩
theorem cks (m:Mem) (h:LV m) (I:ImV) (M:Img) (hm:IM m I M) (hcs:CapS I.c 4) (h1:M.code.length≤60) (h2:M.funcs.length≤80) (h3:M.vecs.length≤40) (h4:M.atoms.length≤80):CkOk m I M 10000 8000 54 (checkI M)∧CkOk m I M 10000 30000 37 (checkI M):=by
 refine ⟨(ick_ok m h I M hm hcs (by omega)).le (by omega) (by omega),fun N m1 hN he hmn=>?_⟩
 have e1:=Nat.mul_le_mul (show 3*M.code.length≤180 by omega) h2
 have e2:=Nat.mul_le_mul (show 2*M.funcs.length+2≤162 by omega) h2
 obtain ⟨m',hr,hg⟩:=r4check_run N m1 I M (hm.ext he) (by omega) (fun _=>by omega) (by omega)
 rw [check_eq] at hr
 exact ⟨m',hr,hg.le (by omega)⟩
abbrev CE:=List (Nat×Nat×Nat)
def mE:CE→List (AV×AV×Nat)
 | []=>[]
 | (u,v,b)::r=>(.int .i64 (u:Int),.int .i64 (v:Int),b)::mE r
def valE (x:Nat):CE→Nat
 | []=>0
 | (u,v,_)::r=>if x=u then v else valE x r
def repE (x k:Nat):CE→CE
 | []=>[]
 | (u,v,b)::r=>if x=u then (x,k,b)::r else (u,v,b)::repE x k r
theorem find_mE (x:Nat):∀ (l:CE) (j:Nat),(valE x l=0∧findK .int (.int .i64 (x:Int)) (mE l) j=some none∧(∀ k c y:Nat,valE y (l++[(x,k,c)])=if y=x then k else valE y l))∨∃ i,findK .int (.int .i64 (x:Int)) (mE l) j=some (some (j+i,.int .i64 (valE x l:Int)))∧(∀ k:Nat,setE (mE l) i (.int .i64 (x:Int)) (.int .i64 (k:Int))=mE (repE x k l))∧∀ k y:Nat,valE y (repE x k l)=if y=x then k else valE y l
 | [],j=>.inl ⟨rfl,rfl,fun k c y=>by simp only [List.nil_append,valE]⟩
 | (u,v,b)::r,j=>by
  by_cases h:x=u
  ·subst h
   refine .inr ⟨0,?_,fun k=>?_,fun k y=>?_⟩
   ·simp only [mE,findK,keyEq,if_true,valE,Nat.add_zero,beq_self_eq_true]
   ·simp only [mE,setE,repE,if_true]
   ·simp only [repE,if_true,valE]
    split <;> rfl
  ·have hb:((x:Int) == (u:Int))=false:=by rw [beq_eq_false_iff_ne]; omega
   rcases find_mE x r (j+1) with ⟨h0,h1,h2⟩ | ⟨i,h1,h2,h3⟩
   ·refine .inl ⟨by simp only [valE,h,if_false,h0],by simp only [mE,findK,keyEq,if_true,hb,h1],fun k c y=>?_⟩
    simp only [List.cons_append,valE,h2 k c y]
    by_cases hy:y=u
    ·have:y≠x:=fun e=>h (e.symm.trans hy)
     rw [if_pos hy,if_neg this,if_pos hy]
    ·rw [if_neg hy,if_neg hy]
   ·refine .inr ⟨i+1,?_,fun k=>?_,fun k y=>?_⟩
    ·simp only [mE,findK,keyEq,if_true,hb,h1,valE,h,if_false]
     congr 3; omega
    ·simp only [mE,setE,repE,h,if_false,h2 k]
    ·simp only [repE,h,if_false,valE,h3 k y]
     by_cases hy:y=u
     ·have:y≠x:=fun e=>h (e.symm.trans hy)
      rw [if_pos hy,if_neg this,if_pos hy]
     ·rw [if_neg hy,if_neg hy]
def ColE (l:CE) (c:List Nat):Prop:=∀ i k:Nat,c[i]?=some k→valE i l=k
theorem ColE.init (n:Nat):ColE [] (List.replicate n 0):=fun i k h=>by
 rw [List.getElem?_replicate] at h
 split at h
 ·cases h; rfl
 ·cases h
theorem col_look {m:Mem} {K c:Nat} {l:CE} (h:m.get K=some (.map (mE l) c)) (x:Nat):xmEv (.mlk .int (.int .i64 0) false) [.map K,.int .i64 (x:Int)] m=some (.int .i64 (valE x l:Int),m):=by
 rcases find_mE x l 0 with ⟨h0,h1,_⟩ | ⟨i,h1,_,_⟩
 ·simp only [xmEv,h,h1,Bool.false_eq_true,if_false,h0]; rfl
 ·simp only [xmEv,h,h1,Bool.false_eq_true,if_false]
theorem col_put {m:Mem} {K c:Nat} {l:CE} {cs:List Nat} (h:m.get K=some (.map (mE l) c)) (hc:ColE l cs) (x k:Nat):∃ l' c',xmEv (.mup .int) [.map K,.int .i64 (x:Int),.int .i64 (k:Int)] m=some (.unk,m.set K (.map (mE l') c'))∧ColE l' (cs.set x k):=by
 have fin:∀ l',(∀ y,valE y l'=if y=x then k else valE y l)→ColE l' (cs.set x k):=fun l' hv i z hz=>by
  rw [hv]
  by_cases hi:i=x
  ·subst hi
   rw [if_pos rfl]
   rw [List.getElem?_set] at hz
   simp only [if_true] at hz
   split at hz
   ·exact Option.some.inj hz
   ·cases hz
  ·rw [if_neg hi]
   rw [List.getElem?_set_ne (fun e=>hi e.symm)] at hz
   exact hc i z hz
 rcases find_mE x l 0 with ⟨h0,h1,h2⟩ | ⟨i,h1,h2,h3⟩
 ·have e:keyEq .int (.int .i64 (x:Int)) (.int .i64 (x:Int))=some true:=by simp [keyEq]
  have ea:∀ l:CE,mE (l++[(x,k,c)])=mE l++[(.int .i64 (x:Int),.int .i64 (k:Int),c)]:=by
   intro l
   induction l with
   | nil=>rfl
   | cons y r ih=>obtain ⟨a,b,d⟩:=y; rw [List.cons_append,mE,mE,ih,List.cons_append]
  exact ⟨l++[(x,k,c)],c+1,by simp only [xmEv,h,h1,e,ea],fin _ (h2 k c)⟩
 ·exact ⟨repE x k l,c,by simp only [xmEv,h,h1,Nat.zero_add,h2 k],fin _ (h3 k)⟩
structure WkM (m0:Mem) (I:ImV) (M:Img) (W K n1:Nat) (m:Mem) (va vb:AV) (s:DS):Prop where
 ext:Ext m0 m
 lo:m0.n≤W∧m0.n≤K
 hi:W < n1∧K < n1
 ne:W≠K
 nn:n1≤m.n
 gw:m.get W=some (.cells [I.c,I.f,I.v,.int .i64 M.main,I.i,I.p,.int .i64 M.stack,I.a,.map K,va,vb] true)
 gk:∃ l c,m.get K=some (.map (mE l) c)∧ColE l s.c
 ol:OS 1 n1 m va (s.l.map fun z=>AV.int .i64 z) s.l.length
 ob:OS 2 n1 m vb (s.b.flatMap prow) s.b.length
 nab:∀ k,blkOf va=some k→blkOf vb≠some k
theorem WkM.up {m0:Mem} {I:ImV} {M:Img} {W K n1:Nat} {m m':Mem} {va vb:AV} {s:DS} (h:WkM m0 I M W K n1 m va vb s) (k:Ext m m'):WkM m0 I M W K n1 m' va vb s where
 ext:=h.ext.trans k
 lo:=h.lo
 hi:=h.hi
 ne:=h.ne
 nn:=Nat.le_trans h.nn k.1
 gw:=(k.2 _ (Mem.get_lt h.gw)).trans h.gw
 gk:=by
  obtain ⟨l,c,h1,h2⟩:=h.gk
  exact ⟨l,c,(k.2 _ (Mem.get_lt h1)).trans h1,h2⟩
 ol:=h.ol.ext k
 ob:=h.ob.ext k
 nab:=h.nab
def WkF (W K:Nat) (va vb:AV) (m m':Mem):Prop:=m.n≤m'.n∧∀ j,j < m.n→j≠W→j≠K→blkOf va≠some j→blkOf vb≠some j→m'.get j=m.get j
theorem WkM.col {m0:Mem} {I:ImV} {M:Img} {W K n1:Nat} {m:Mem} {va vb:AV} {s:DS} (h:WkM m0 I M W K n1 m va vb s) (a k:Nat) (hm:m.n≤2 ^ depth):
  ∃ m',xmEv (.mup .int) [.map K,.int .i64 (a:Int),.int .i64 (k:Int)] m=some (.unk,m')∧m'.n=m.n∧WkM m0 I M W K n1 m' va vb ⟨s.c.set a k,s.l,s.b⟩∧WkF W K va vb m m':=by
 obtain ⟨l,c,h1,h2⟩:=h.gk
 obtain ⟨l',c',h3,h4⟩:=col_put h1 h2 a k
 have hlt:=Mem.get_lt h1
 have hk:∀ j,j≠K→(m.set K (.map (mE l') c')).get j=m.get j:=fun j hj=>Mem.get_set_ne _ hm hlt (fun e=>hj e.symm)
 have hhi:=h.hi
 have hlo:=h.lo
 have hol:=h.ol.blk
 have hob:=h.ob.blk
 exact ⟨_,h3,set_n _ _ _,{
  ext:=⟨by rw [set_n]; exact h.ext.1,fun i hi=>(hk i (by omega)).trans (h.ext.2 i hi)⟩
  lo:=h.lo
  hi:=h.hi
  ne:=h.ne
  nn:=by rw [set_n]; exact h.nn
  gw:=(hk _ h.ne).trans h.gw
  gk:=⟨l',c',Mem.get_set_same _ hlt,h4⟩
  ol:=h.ol.keep fun b hb=>hk b (by have:=(hol b hb).1; omega)
  ob:=h.ob.keep fun b hb=>hk b (by have:=(hob b hb).1; omega)
  nab:=h.nab },by rw [WkF,set_n]; exact ⟨Nat.le_refl _,fun j _ _ hj _ _=>hk j hj⟩⟩
theorem WkM.addb {m0:Mem} {I:ImV} {M:Img} {W K n1:Nat} {m:Mem} {va vb:AV} {s:DS} (h:WkM m0 I M W K n1 m va vb s) (x y:Int) (hmn:m.n+3≤2 ^ depth) (hn:s.b.length≤1000000):
  ∃ m2,(∀ sn t q,appEv ⟨sn,t,q,m.push (.cells [.int .i64 x,.int .i64 y] true)⟩ none 2 16 vb (.slice m.n 0 1 (some 1) 2)=some (.slice (m.n+1) 0 (s.b.length+1) none 2,⟨sn,t,q,m2⟩))∧m2.get W=some (.cells [I.c,I.f,I.v,.int .i64 M.main,I.i,I.p,.int .i64 M.stack,I.a,.map K,va,vb] true)∧m2.n=m.n+2∧
   WkM m0 I M W K n1 (m2.set W (.cells [I.c,I.f,I.v,.int .i64 M.main,I.i,I.p,.int .i64 M.stack,I.a,.map K,va,.slice (m.n+1) 0 (s.b.length+1) none 2] true)) va (.slice (m.n+1) 0 (s.b.length+1) none 2) ⟨s.c,s.l,s.b++[(x,y)]⟩∧WkF W K va vb m (m2.set W (.cells [I.c,I.f,I.v,.int .i64 M.main,I.i,I.p,.int .i64 M.stack,I.a,.map K,va,.slice (m.n+1) 0 (s.b.length+1) none 2] true)):=by
 have hhi:=h.hi
 have hlo:=h.lo
 have hnn:=h.nn
 have hne:=h.ne
 have hol:=h.ol.blk
 have hob:=h.ob.blk
 obtain ⟨l,c,h1,h2⟩:=h.gk
 obtain ⟨m2,ha,o2,n2,k2⟩:=add_os (c:=2) (bytes:=16) (by omega) h.ob (e:=[.int .i64 x,.int .i64 y]) rfl rfl hmn hn (by omega) hnn
 have hq:∀ q,q < n1→blkOf vb≠some q:=fun q hq e=>by have:=(hob q e).1; omega
 have h4:m2.get W=some (.cells [I.c,I.f,I.v,.int .i64 M.main,I.i,I.p,.int .i64 M.stack,I.a,.map K,va,vb] true):=(k2 _ (by omega) (hq _ (by omega))).trans h.gw
 have hlt:=Mem.get_lt h4
 have hle:m2.n≤2 ^ depth:=by omega
 have hset:∀ i,i≠W→(m2.set W (.cells [I.c,I.f,I.v,.int .i64 M.main,I.i,I.p,.int .i64 M.stack,I.a,.map K,va,.slice (m.n+1) 0 (s.b.length+1) none 2] true)).get i=m2.get i:=fun i hi=>Mem.get_set_ne _ hle hlt (fun e=>hi e.symm)
 have hk:∀ j,j < m.n→j≠W→blkOf vb≠some j→(m2.set W (.cells [I.c,I.f,I.v,.int .i64 M.main,I.i,I.p,.int .i64 M.stack,I.a,.map K,va,.slice (m.n+1) 0 (s.b.length+1) none 2] true)).get j=m.get j:=fun j hj h1 h2=>(hset j h1).trans (k2 j hj h2)
 refine ⟨m2,ha,h4,n2,{
  ext:=⟨by rw [set_n]; have:=h.ext.1; omega,fun i hi=>(hk i (by have:=h.ext.1; omega) (by omega) (hq i (by omega))).trans (h.ext.2 i hi)⟩
  lo:=h.lo
  hi:=h.hi
  ne:=h.ne
  nn:=by rw [set_n]; omega
  gw:=Mem.get_set_same _ hlt
  gk:=⟨l,c,(hk _ (by omega) (Ne.symm hne) (hq _ (by omega))).trans h1,h2⟩
  ol:=h.ol.keep fun b hb=>hk b (hol b hb).2 (by have:=(hol b hb).1; omega) (h.nab b hb)
  ob:=by
   have e:(s.b++[(x,y)]).flatMap prow=s.b.flatMap prow++[.int .i64 x,.int .i64 y]:=by simp [prow]
   rw [e,List.length_append,List.length_singleton]
   exact o2.keep fun b hb=>hset b (by cases hb; omega)
  nab:=fun k hk e=>by cases e; have:=(hol _ hk).2; omega },by rw [WkF,set_n]; exact ⟨by omega,fun j hj h4 _ _ h6=>hk j hj h4 h6⟩⟩
theorem WkM.addl {m0:Mem} {I:ImV} {M:Img} {W K n1:Nat} {m:Mem} {va vb:AV} {s:DS} (h:WkM m0 I M W K n1 m va vb s) (x:Int) (hmn:m.n+3≤2 ^ depth) (hn:s.l.length≤1000000):
  ∃ m2,(∀ sn t q,appEv ⟨sn,t,q,m.push (.cells [.int .i64 x] true)⟩ none 1 8 va (.slice m.n 0 1 (some 1) 1)=some (.slice (m.n+1) 0 (s.l.length+1) none 1,⟨sn,t,q,m2⟩))∧m2.get W=some (.cells [I.c,I.f,I.v,.int .i64 M.main,I.i,I.p,.int .i64 M.stack,I.a,.map K,va,vb] true)∧m2.n=m.n+2∧
   WkM m0 I M W K n1 (m2.set W (.cells [I.c,I.f,I.v,.int .i64 M.main,I.i,I.p,.int .i64 M.stack,I.a,.map K,.slice (m.n+1) 0 (s.l.length+1) none 1,vb] true)) (.slice (m.n+1) 0 (s.l.length+1) none 1) vb ⟨s.c,s.l++[x],s.b⟩∧WkF W K va vb m (m2.set W (.cells [I.c,I.f,I.v,.int .i64 M.main,I.i,I.p,.int .i64 M.stack,I.a,.map K,.slice (m.n+1) 0 (s.l.length+1) none 1,vb] true)):=by
 have hhi:=h.hi
 have hlo:=h.lo
 have hnn:=h.nn
 have hne:=h.ne
 have hol:=h.ol.blk
 have hob:=h.ob.blk
 obtain ⟨l,c,h1,h2⟩:=h.gk
 obtain ⟨m2,ha,o2,n2,k2⟩:=add_os (c:=1) (bytes:=8) (by omega) h.ol (e:=[.int .i64 x]) rfl rfl hmn hn (by omega) hnn
 have hq:∀ q,q < n1→blkOf va≠some q:=fun q hq e=>by have:=(hol q e).1; omega
 have h5:m2.get W=some (.cells [I.c,I.f,I.v,.int .i64 M.main,I.i,I.p,.int .i64 M.stack,I.a,.map K,va,vb] true):=(k2 _ (by omega) (hq _ (by omega))).trans h.gw
 have hlt:=Mem.get_lt h5
 have hle:m2.n≤2 ^ depth:=by omega
 have hset:∀ i,i≠W→(m2.set W (.cells [I.c,I.f,I.v,.int .i64 M.main,I.i,I.p,.int .i64 M.stack,I.a,.map K,.slice (m.n+1) 0 (s.l.length+1) none 1,vb] true)).get i=m2.get i:=fun i hi=>Mem.get_set_ne _ hle hlt (fun e=>hi e.symm)
 have hk:∀ j,j < m.n→j≠W→blkOf va≠some j→(m2.set W (.cells [I.c,I.f,I.v,.int .i64 M.main,I.i,I.p,.int .i64 M.stack,I.a,.map K,.slice (m.n+1) 0 (s.l.length+1) none 1,vb] true)).get j=m.get j:=fun j hj h1 h2=>(hset j h1).trans (k2 j hj h2)
 refine ⟨m2,ha,h5,n2,{
  ext:=⟨by rw [set_n]; have:=h.ext.1; omega,fun i hi=>(hk i (by have:=h.ext.1; omega) (by omega) (hq i (by omega))).trans (h.ext.2 i hi)⟩
  lo:=h.lo
  hi:=h.hi
  ne:=h.ne
  nn:=by rw [set_n]; omega
  gw:=Mem.get_set_same _ hlt
  gk:=⟨l,c,(hk _ (by omega) (Ne.symm hne) (hq _ (by omega))).trans h1,h2⟩
  ol:=by
   rw [List.map_append,List.length_append,List.length_singleton]
   exact o2.keep fun b hb=>hset b (by cases hb; omega)
  ob:=h.ob.keep fun b hb=>hk b (hob b hb).2 (by have:=(hob b hb).1; omega) (fun e=>h.nab b e hb)
  nab:=fun k hk e=>by cases hk; have:=(hob _ e).2; omega },by rw [WkF,set_n]; exact ⟨by omega,fun j hj h4 _ h6 _=>hk j hj h4 h6⟩⟩
def WkS (W K:Nat) (va vb:AV) (m:Mem) (va' vb':AV) (m':Mem):Prop:=WkF W K va vb m m'∧(∀ j,blkOf va'=some j→blkOf va=some j∨m.n≤j)∧(∀ j,blkOf vb'=some j→blkOf vb=some j∨m.n≤j)
theorem WkS.refl (W K:Nat) (va vb:AV) (m:Mem):WkS W K va vb m va vb m:=⟨⟨Nat.le_refl _,fun _ _ _ _ _ _=>rfl⟩,fun _ h=>.inl h,fun _ h=>.inl h⟩
theorem WkS.trans {W K:Nat} {va vb va' vb' va'' vb'':AV} {m m' m'':Mem} (h:WkS W K va vb m va' vb' m') (k:WkS W K va' vb' m' va'' vb'' m''):WkS W K va vb m va'' vb'' m'':=by
 obtain ⟨⟨h1,h2⟩,h3,h4⟩:=h
 obtain ⟨⟨k1,k2⟩,k3,k4⟩:=k
 refine ⟨⟨by omega,fun j hj a b d e=>(k2 j (by omega) a b (fun x=>?_) (fun x=>?_)).trans (h2 j hj a b d e)⟩,fun j hj=>?_,fun j hj=>?_⟩
 ·rcases h3 j x with y | y
  ·exact d y
  ·omega
 ·rcases h4 j x with y | y
  ·exact e y
  ·omega
 ·rcases k3 j hj with y | y
  ·exact h3 j y
  ·exact .inr (by omega)
 ·rcases k4 j hj with y | y
  ·exact h4 j y
  ·exact .inr (by omega)
def WSafe (n1:Nat) (va vb:AV) (m:Mem) (j:Nat):Prop:=n1≤j∧j < m.n∧blkOf va≠some j∧blkOf vb≠some j
theorem WkS.safe {m0:Mem} {I:ImV} {M:Img} {W K n1:Nat} {va vb va' vb':AV} {m m':Mem} {s:DS} (hv:WkM m0 I M W K n1 m va vb s) (h:WkS W K va vb m va' vb' m') {j:Nat} (k:WSafe n1 va vb m j):m'.get j=m.get j∧WSafe n1 va' vb' m' j:=by
 obtain ⟨⟨h1,h2⟩,h3,h4⟩:=h
 obtain ⟨k1,k2,k3,k4⟩:=k
 have hhi:=hv.hi
 refine ⟨h2 j k2 (by omega) (by omega) k3 k4,k1,by omega,fun x=>?_,fun x=>?_⟩
 ·rcases h3 j x with y | y
  ·exact k3 y
  ·omega
 ·rcases h4 j x with y | y
  ·exact k4 y
  ·omega
theorem rjumps_run (N:Nat) (hN:5≤N) (op a b c:Int) (m:Mem) (hmn:m.n+3≤2 ^ depth):∃ m',run A N 108 [.agg [.int .i64 op,.int .i64 a,.int .i64 b,.int .i64 c]] m=some (jumpsI op a b c,m')∧Gr m m' 3:=by
 obtain ⟨n,rfl⟩:∃ n,N=n+1:=⟨N - 1,by omega⟩
 obtain ⟨m1,c1,g1⟩:=rcheck_run n (by omega) op a b c m hmn
 refine ⟨m1,?_,g1⟩
 rw [run_108]
 unfold jumpsI
 unfold fnEv a108
 cases hk:codeOk op a b c
 ·rw [hk] at c1
  simp only [Bool.false_eq_true,if_false] at c1
  simp only [KK,Nat.reduceEqDiff,Int.reduceEq,Nat.reduceAdd,Nat.reduceLeDiff,Nat.reduceLT,c1]
 ·rw [hk] at c1
  simp only [if_true] at c1
  by_cases q1:op=1
  ·subst q1
   simp only [KK,Nat.reduceEqDiff,Int.reduceEq,Nat.reduceAdd,Nat.reduceLeDiff,Nat.reduceLT,c1,true_or]
  ·by_cases q2:op=18
   ·subst q2
    simp only [KK,Nat.reduceEqDiff,Int.reduceEq,Nat.reduceAdd,Nat.reduceLeDiff,Nat.reduceLT,c1,or_true]
   ·by_cases q3:op=15
    ·subst q3
     simp only [KK,Nat.reduceEqDiff,Int.reduceEq,Nat.reduceAdd,Nat.reduceLeDiff,Nat.reduceLT,c1,q1,q2,or_self]
    ·by_cases q4:op=16
     ·subst q4
      simp only [KK,Nat.reduceEqDiff,Nat.reduceAdd,Nat.reduceLeDiff,Nat.reduceLT,c1,q1,q2,q3,or_self]
     ·simp only [KK,Nat.reduceEqDiff,Nat.reduceAdd,Nat.reduceLeDiff,Nat.reduceLT,c1,q1,q2,q3,q4,or_self]
theorem sort2 (p q:Int):sortZ [p,q]=if p≤q then [p,q] else [q,p]:=by
 unfold sortZ
 by_cases h:p≤q <;> simp [List.mergeSort,List.MergeSort.Internal.splitInTwo,h]
theorem comp2 (p q:Int):Lib.compact [p,q]=if p=q then [p] else [p,q]:=by
 by_cases h:p=q
 ·subst h
  simp [Lib.compact,Lib.compactUpTo,Lib.keeps,List.range_succ]
 ·have h2:¬q=p:=fun e=>h e.symm
  simp [Lib.compact,Lib.compactUpTo,Lib.keeps,List.range_succ,h,h2]
theorem comp1 (p:Int):Lib.compact (sortZ [p])=[p]:=by
 simp [sortZ,Lib.compact,Lib.compactUpTo,Lib.keeps,List.range_succ]
theorem comp0:Lib.compact (sortZ ([]:List Int))=[]:=by
 simp [sortZ,Lib.compact,Lib.compactUpTo]
theorem IS.two {n0:Nat} {m:Mem} {v:AV} {x y:Int} (h:IS n0 m v [x,y]):∃ b,n0≤b∧v=.slice b 0 2 none 1∧m.get b=some (.cells [.int .i64 x,.int .i64 y] true):=by
 rcases h with ⟨_,_,h⟩ | ⟨b,h0,h1,h2,_⟩
 ·cases h
 ·exact ⟨b,h0,h1,h2⟩
theorem IS.far {n0:Nat} {m:Mem} {v:AV} {l:List Int} (h:IS n0 m v l):∀ b,blkOf v=some b→n0≤b:=by
 rcases h with ⟨rfl,_⟩ | ⟨b,h0,rfl,_⟩
 ·intro b hb; cases hb
 ·intro k hk; cases hk; exact h0
theorem tw01:(0+0+1≤0+1+1)=True∧(0+1+1≤0+1+1)=True:=⟨by simp,by simp⟩
theorem steps_run (N:Nat) (hN:10≤N) (m:Mem) (I:ImV) (M:Img) (hm:IM m I M) (a:Nat) (x:II) (hx:M.code[a]?=some x) (hok:codeOk x.op x.a x.b x.c=true) (hl:a≤100000) (hmn:m.n+20≤2 ^ depth):
  ∃ v m',run A N 64 [.agg (ic I M),.int .i64 (a:Int)] m=some (v,m')∧IS m.n m' v (nextI x a)∧Gr m m' 8:=by
 obtain ⟨n,rfl⟩:∃ n,N=n+1:=⟨N - 1,by omega⟩
 have hP:=hm.pls
 obtain ⟨b,o,cs,ow,e1,e2,e3,_⟩:=hm.c.ii hx
 obtain ⟨m1,hj,hg1⟩:=rjumps_run n (by omega) x.op x.a x.b x.c m (by omega)
 have hgn:=hg1.2
 have hgl:=hg1.1.1
 have a1:=add_i a (by omega)
 rw [run_64]
 unfold fnEv a64
 by_cases h1:x.op=1∨x.op=18
 ·have hje:jumpsI x.op x.a x.b x.c=.tup [.int .i64 0,.bool false,.bool false]:=by unfold jumpsI; rw [if_pos hok]; rw [if_pos h1]
  rw [hje] at hj
  have h15:¬(x.op=15∨x.op=16):=by omega
  have h16:x.op=1∨x.op=18∨x.op=15:=by omega
  have hout:outI x a=[]:=by unfold outI; simp [h15,h16]
  have hnx:nextI x a=[]:=by unfold nextI; rw [hout]; exact comp0
  rw [hnx]
  have d2:decide ((0:Int)=2)=false:=by decide
  exact ⟨.nils,m1,by simp only [KK,opE_mkslc,lookL,setL,Nat.reduceEqDiff,Int.reduceEq,Nat.reduceAdd,Nat.reduceLeDiff,Nat.reduceLT,Nat.reducePow,Nat.mul_one,AOp.kd,kd_rm,kd_sm,logOk_nil',e1,e2,e3,hj],.inl ⟨rfl,rfl,rfl⟩,hg1.le (by omega)⟩
 by_cases h2:x.op=15
 ·have hje:jumpsI x.op x.a x.b x.c=.tup [.int .i64 x.a,.bool true,.bool false]:=by unfold jumpsI; rw [if_pos hok]; rw [if_neg h1,if_pos h2]
  rw [hje] at hj
  obtain ⟨v1,m2,ha1,o1,n1,n2,k1,y1,y2,hf1⟩:=push_int (IS.nil m.n m1) x.a (by omega) (by omega) (by simp)
  rw [List.nil_append] at o1
  have hout:outI x a=[x.a]:=by unfold outI; simp [h2]
  have hnx:nextI x a=[x.a]:=by unfold nextI; rw [hout]; exact comp1 _
  rw [hnx]
  have ll:=(OS.rs (f:=fun z=>[AV.int .i64 z]) (fun _=>rfl) (l:=[x.a]) o1).lenR
  have d2:decide (((1:Nat):Int)=2)=false:=by decide
  exact ⟨v1,m2,by simp only [KK,opE_mkslc,lookL,setL,Nat.reduceEqDiff,Nat.reduceAdd,Nat.reduceLeDiff,Nat.reduceLT,Nat.reducePow,Nat.mul_one,AOp.kd,kd_rm,kd_sm,logOk_nil',e1,e2,e3,hj,hf1,zer1,ha1,y1,y2,ll,d2],o1,⟨⟨by omega,fun i hi=>(k1 i hi).trans (hg1.1.2 i hi)⟩,by omega⟩⟩
 by_cases h3:x.op=16
 ·have hje:jumpsI x.op x.a x.b x.c=.tup [.int .i64 x.a,.bool true,.bool true]:=by unfold jumpsI; rw [if_pos hok]; rw [if_neg h1,if_neg h2,if_pos h3]
  rw [hje] at hj
  obtain ⟨v1,m2,ha1,o1,n1,n2,k1,y1,y2,hf1⟩:=push_int (IS.nil m.n m1) x.a (by omega) (by omega) (by simp)
  rw [List.nil_append] at o1
  have ll:=(OS.rs (f:=fun z=>[AV.int .i64 z]) (fun _=>rfl) (l:=[x.a]) o1).lenR
  have hout:outI x a=[(a:Int)+1,x.a]:=by unfold outI; simp [h3]
  by_cases h4:x.a=(a:Int)+1
  ·have hnx:nextI x a=[x.a]:=by unfold nextI; rw [hout,h4,sort2,if_pos (by omega),comp2,if_pos rfl]
   rw [hnx]
   have d1:decide (x.a=((a+1:Nat):Int))=true:=decide_eq_true (by omega)
   have d2:decide (((1:Nat):Int)=2)=false:=by decide
   exact ⟨v1,m2,by simp only [KK,opE_mkslc,lookL,setL,Nat.reduceEqDiff,Nat.reduceAdd,Nat.reduceLeDiff,Nat.reduceLT,Nat.reducePow,Nat.mul_one,AOp.kd,kd_rm,kd_sm,logOk_nil',e1,e2,e3,hj,hf1,zer1,ha1,y1,y2,ll,a1,d1,d2],o1,⟨⟨by omega,fun i hi=>(k1 i hi).trans (hg1.1.2 i hi)⟩,by omega⟩⟩
  have d1:decide (x.a=((a+1:Nat):Int))=false:=decide_eq_false (by omega)
  obtain ⟨v2,m3,ha2,o2,n3,n4,k2,y3,y4,hf2⟩:=push_int o1 ((a+1:Nat):Int) (by omega) (by omega) (by simp)
  obtain ⟨B,hB,rfl,gB⟩:=IS.two (show IS m.n m3 v2 [x.a,((a+1:Nat):Int)] from o2)
  have d2:decide ((2:Int)=2)=true:=by decide
  have w1:((0:Int)≤0∧(0:Int) < 2)=True:=by simp
  have w2:((0:Int)≤1∧(1:Int) < 2)=True:=by simp
  by_cases h5:((a+1:Nat):Int) < x.a
  ·have d3:decide (((a+1:Nat):Int) < x.a)=true:=decide_eq_true h5
   have hnx:nextI x a=[((a+1:Nat):Int),x.a]:=by unfold nextI; rw [hout,sort2,if_pos (by omega),comp2,if_neg (by omega)]; rfl
   rw [hnx]
   have hb:=Mem.get_lt gB
   have hle:m3.n≤2 ^ depth:=by omega
   have g1:=Mem.get_set_same (m:=m3) (.cells [AV.int .i64 ((a+1:Nat):Int),.int .i64 ((a+1:Nat):Int)] true) hb
   have g2:=Mem.get_set_same (m:=m3.set B (.cells [AV.int .i64 ((a+1:Nat):Int),.int .i64 ((a+1:Nat):Int)] true)) (.cells [AV.int .i64 ((a+1:Nat):Int),.int .i64 x.a] true) (by rw [set_n]; exact hb)
   refine ⟨_,(m3.set B (.cells [AV.int .i64 ((a+1:Nat):Int),.int .i64 ((a+1:Nat):Int)] true)).set B (.cells [AV.int .i64 ((a+1:Nat):Int),.int .i64 x.a] true),by simp only [KK,opE_mkslc,lookL,setL,Nat.reduceEqDiff,Int.reduceLT,Int.reduceLE,Nat.reduceAdd,Nat.reduceLeDiff,Nat.reduceLT,Nat.reducePow,Int.reduceToNat,Nat.mul_one,AOp.kd,kd_rm,kd_sm,logOk_nil',e1,e2,e3,hj,hf1,zer1,ha1,y1,a1,d1,hf2,ha2,gB,d3,g1,tw01,Int.cast_ofNat_Int,Int.reduceLT,Int.reduceLE],.inr ⟨B,hB,rfl,g2,rfl⟩,⟨⟨by rw [set_n,set_n]; omega,fun i hi=>?_⟩,by rw [set_n,set_n]; omega⟩⟩
   rw [Mem.get_set_ne _ (by rw [set_n]; exact hle) (by rw [set_n]; exact hb) (by omega),Mem.get_set_ne _ hle hb (by omega)]
   exact (k2 i hi).trans ((k1 i hi).trans (hg1.1.2 i hi))
  ·have d3:decide (((a+1:Nat):Int) < x.a)=false:=decide_eq_false h5
   have hnx:nextI x a=[x.a,((a+1:Nat):Int)]:=by unfold nextI; rw [hout,sort2,if_neg (by omega),comp2,if_neg (by omega)]; rfl
   rw [hnx]
   exact ⟨_,m3,by simp only [KK,opE_mkslc,lookL,setL,Nat.reduceEqDiff,Int.reduceLT,Int.reduceLE,Nat.reduceAdd,Nat.reduceLeDiff,Nat.reduceLT,Nat.reducePow,Int.reduceToNat,Nat.mul_one,AOp.kd,kd_rm,kd_sm,logOk_nil',e1,e2,e3,hj,hf1,zer1,ha1,y1,a1,d1,hf2,ha2,gB,d3,tw01,Int.cast_ofNat_Int,Int.reduceLT,Int.reduceLE],o2,⟨⟨by omega,fun i hi=>(k2 i hi).trans ((k1 i hi).trans (hg1.1.2 i hi))⟩,by omega⟩⟩
 have hje:jumpsI x.op x.a x.b x.c=.tup [.int .i64 0,.bool false,.bool true]:=by unfold jumpsI; rw [if_pos hok]; rw [if_neg h1,if_neg h2,if_neg h3]
 rw [hje] at hj
 obtain ⟨v1,m2,ha1,o1,n1,n2,k1,y1,y2,hf1⟩:=push_int (IS.nil m.n m1) ((a+1:Nat):Int) (by omega) (by omega) (by simp)
 rw [List.nil_append] at o1
 have h15:¬(x.op=15∨x.op=16):=by omega
 have h16:¬(x.op=1∨x.op=18∨x.op=15):=by omega
 have hout:outI x a=[((a+1:Nat):Int)]:=by unfold outI; simp [h15,h16]
 have hnx:nextI x a=[((a+1:Nat):Int)]:=by unfold nextI; rw [hout]; exact comp1 _
 rw [hnx]
 have ll:=(OS.rs (f:=fun z=>[AV.int .i64 z]) (fun _=>rfl) (l:=[((a+1:Nat):Int)]) o1).lenR
 have d2:decide (((1:Nat):Int)=2)=false:=by decide
 exact ⟨v1,m2,by simp only [KK,opE_mkslc,lookL,setL,Nat.reduceEqDiff,Nat.reduceAdd,Nat.reduceLeDiff,Nat.reduceLT,Nat.reducePow,Nat.mul_one,AOp.kd,kd_rm,kd_sm,logOk_nil',e1,e2,e3,hj,a1,hf1,zer1,ha1,y1,y2,ll,d2],o1,⟨⟨by omega,fun i hi=>(k1 i hi).trans (hg1.1.2 i hi)⟩,by omega⟩⟩
def RecW (m0:Mem) (I:ImV) (M:Img) (W K n1:Nat) (nx:Nat→List Int) (k:Nat):Prop:=
 ∀ (N:Nat) (m:Mem) (va vb:AV) (s:DS) (a:Nat),40+8*k≤N→WkM m0 I M W K n1 m va vb s→s.c.length=M.code.length→whites s.c≤k→s.c[a]?=some 0→m.n+40*whites s.c+10≤2 ^ depth→s.l.length+whites s.c≤100000→s.b.length+2*whites s.c≤300000→
  ∃ m' va' vb',run A N 105 [.ptr W 0,.int .i64 (a:Int)] m=some (.tup [],m')∧WkM m0 I M W K n1 m' va' vb' (visP nx k a s)∧WkS W K va vb m va' vb' m'∧(visP nx k a s).c.length=s.c.length∧whites (visP nx k a s).c+1≤whites s.c∧(visP nx k a s).l.length+whites (visP nx k a s).c≤s.l.length+whites s.c∧(visP nx k a s).b.length+2*whites (visP nx k a s).c≤s.b.length+2*whites s.c∧m'.n+40*whites (visP nx k a s).c≤m.n+40*whites s.c
theorem sub_i (i:Nat) (hi:i≤1000000):binEv .sub (.int .i64 (i:Int)) (.int .i64 1)=some (.int .i64 ((i:Int) - 1)):=by
 simp only [binEv,if_true,intBin,IntKind.wrap,IntKind.bits]
 simp [IntKind.signed]
 omega
theorem wl_step (k:Nat) (m0:Mem) (I:ImV) (M:Img) (W K n1:Nat) (nx:Nat→List Int) (hrec:RecW m0 I M W K n1 nx k) (N:Nat) (hN:40+8*k≤N) (m:Mem) (va vb:AV) (s:DS) (hv:WkM m0 I M W K n1 m va vb s) (hcl:s.c.length=M.code.length) (hw:whites s.c≤k) (a:Nat) (l:List Int) (i:Nat) (x:Int) (hx:l[i]?=some x) (hx0:0≤x∧x < (M.code.length:Int)) (hli:i≤100000)
  (hmn:m.n+40*whites s.c+10≤2 ^ depth) (hll:s.l.length+whites s.c≤100000) (hbl:s.b.length+2*whites s.c≤300000) (v:AV) (hr:RS (fun z=>[AV.int .i64 z]) 1 m v l) (T:List (Nat×AV)) (hk:keepT [0,1,4,5] [] T=[(0,.ptr W 0),(1,.int .i64 (a:Int)),(4,v),(5,.int .i64 ((i:Int)))]):
  ∃ T' m' va' vb',codeEv (run A N) (ev A N).2 a105_B1 ⟨73,T,[],m⟩=some (.norm,⟨73,T',[],m'⟩)∧keepT [0,1,4,5] [] T'=[(0,.ptr W 0),(1,.int .i64 (a:Int)),(4,v),(5,.int .i64 ((i:Int) - 1))]∧WkM m0 I M W K n1 m' va' vb' (visStep (visP nx k) a x s)∧WkS W K va vb m va' vb' m'∧(visStep (visP nx k) a x s).c.length=s.c.length∧whites (visStep (visP nx k) a x s).c≤whites s.c∧(visStep (visP nx k) a x s).l.length+whites (visStep (visP nx k) a x s).c≤s.l.length+whites s.c∧(visStep (visP nx k) a x s).b.length+2*whites (visStep (visP nx k) a x s).c≤s.b.length+2*whites s.c+1∧m'.n+40*whites (visStep (visP nx k) a x s).c≤m.n+40*whites s.c+2:=by
 obtain ⟨g,rfl⟩:∃ g:Nat,x=(g:Int):=⟨x.toNat,by omega⟩
 obtain ⟨c,hc⟩:∃ c,s.c[g]?=some c:=⟨_,List.getElem?_eq_getElem (by omega)⟩
 obtain ⟨v1,v2,v3,v4⟩:=hr.plain
 obtain ⟨L,cc,gk,hcol⟩:=hv.gk
 have gw:=hv.gw
 have hlk:=col_look gk g
 rw [hcol g c hc] at hlk
 obtain ⟨b2,o2,cs2,ow2,g1,g2,g3⟩:=hr.i1 hx
 have hf:=not_full (m:=m) (by omega)
 have hi0:(0:Int)≤(i:Int):=by omega
 have d0:decide ((0:Int)≤(i:Int))=true:=decide_eq_true hi0
 have hsb:=sub_i i (by omega)
 unfold a105_B1
 match c,hc,hlk with
 | 0,hc,hlk=>
  have e:visStep (visP nx k) a (g:Int) s=visP nx k g s:=by simp only [visStep,Int.toNat_natCast,hc]
  rw [e]
  obtain ⟨m',va',vb',hrun,hv',hst,q1,q2,q3,q4,q5⟩:=hrec N m va vb s g hN hv hcl hw hc (by omega) hll hbl
  have z0:(((0:Nat):Int) == 0)=true:=rfl
  have z0':decide (((0:Nat):Int)=0)=true:=rfl
  exact ⟨_,m',va',vb',by
   simp only [KK,opE_mkslc,lookL,setL,Nat.reduceEqDiff,Nat.reduceAdd,Nat.reduceLeDiff,Nat.reduceLT,Nat.reducePow,opE_nilck,nilR_ptr,AOp.kd,kd_rm,kd_sm,logOk_nil',opE_xm,hk,d0,v1,gw,g1,g2,g3,hlk,z0',hrun,hsb]; rfl,by simp only [keepT,List.map,look_set,look_cons,in_int,in_ptr,Nat.reduceEqDiff,if_true,if_false,v1],hv',hst,q1,by omega,q3,by omega,by omega⟩
 | 1,hc,hlk=>
  have e:visStep (visP nx k) a (g:Int) s=⟨s.c,s.l,s.b++[((a:Int),(g:Int))]⟩:=by simp only [visStep,Int.toNat_natCast,hc]
  rw [e]
  obtain ⟨m2,happ,h4,n2,hv',hfr⟩:=hv.addb (a:Int) (g:Int) (by omega) (by omega)
  have z0:(((1:Nat):Int) == 0)=false:=rfl
  have z1:(((1:Nat):Int) == 1)=true:=rfl
  have z0':decide (((1:Nat):Int)=0)=false:=rfl
  have z1':decide (((1:Nat):Int)=1)=true:=rfl
  exact ⟨_,_,va,_,by
   simp only [KK,opE_mkslc,Nat.reduceEqDiff,Nat.reduceAdd,Nat.reduceLeDiff,Nat.reduceLT,Nat.reducePow,opE_nilck,nilR_ptr,AOp.kd,kd_rm,kd_sm,logOk_nil',opE_xm,hk,d0,v1,gw,g1,g2,g3,hlk,z0',z1',hf,zer2,happ,h4,hsb]; rfl,by simp only [keepT,List.map,look_set,look_cons,in_int,in_ptr,Nat.reduceEqDiff,if_true,if_false,v1],hv',⟨hfr,fun _ h=>.inl h,fun j hj=>.inr (by cases hj; omega)⟩,rfl,Nat.le_refl _,Nat.le_refl _,by dsimp only; rw [List.length_append,List.length_singleton]; omega,by rw [set_n]; dsimp only; omega⟩
 | c+2,hc,hlk=>
  have e:visStep (visP nx k) a (g:Int) s=s:=by unfold visStep; rw [Int.toNat_natCast,hc]; rfl
  rw [e]
  have z1:(((c+2:Nat):Int) == 1)=false:=by rw [beq_eq_false_iff_ne]; omega
  have z0:(((c+2:Nat):Int) == 0)=false:=by rw [beq_eq_false_iff_ne]; omega
  have z1':decide (((c+2:Nat):Int)=1)=false:=decide_eq_false (by omega)
  have z0':decide (((c+2:Nat):Int)=0)=false:=decide_eq_false (by omega)
  exact ⟨_,m,va,vb,by
   simp only [KK,opE_mkslc,lookL,setL,Nat.reduceEqDiff,Nat.reduceAdd,Nat.reduceLeDiff,Nat.reduceLT,Nat.reducePow,opE_nilck,nilR_ptr,AOp.kd,kd_rm,kd_sm,logOk_nil',opE_xm,hk,d0,v1,gw,g1,g2,g3,hlk,z0',z1',hsb]; rfl,by simp only [keepT,List.map,look_set,look_cons,in_int,in_ptr,Nat.reduceEqDiff,if_true,if_false,v1],hv,WkS.refl W K va vb m,rfl,Nat.le_refl _,Nat.le_refl _,by omega,by omega⟩
theorem wl_loop (k:Nat) (m0:Mem) (I:ImV) (M:Img) (W K n1:Nat) (nx:Nat→List Int) (hrec:RecW m0 I M W K n1 nx k) (hcm:M.code.length≤1000000) (a:Nat) (l:List Int) (hin:∀ x∈l,0≤x∧x < (M.code.length:Int)) (hll2:l.length≤1000) (v:AV):
  ∀ (i:Nat),i≤l.length→∀ (N:Nat) (m:Mem) (va vb:AV) (s:DS) (T:List (Nat×AV)),40+8*k+i≤N→WkM m0 I M W K n1 m va vb s→s.c.length=M.code.length→whites s.c≤k→m.n+40*whites s.c+2*i+20≤2 ^ depth→s.l.length+whites s.c≤100000→s.b.length+2*whites s.c+i≤300000→
   RS (fun z=>[AV.int .i64 z]) 1 m v l→(∀ b,blkOf v=some b→b < m.n→WSafe n1 va vb m b)→keepT [0,1,4,5] [] T=[(0,.ptr W 0),(1,.int .i64 (a:Int)),(4,v),(5,.int .i64 ((i:Int) - 1))]→
   ∃ T' m' va' vb',codeEv (run A N) (ev A N).2 a105_L1 ⟨73,T,[],m⟩=some (.exit 0,⟨73,T',[],m'⟩)∧keepT [0,1] [] T'=[(0,.ptr W 0),(1,.int .i64 (a:Int))]∧WkM m0 I M W K n1 m' va' vb' ((l.take i).foldr (visStep (visP nx k) a) s)∧WkS W K va vb m va' vb' m'∧((l.take i).foldr (visStep (visP nx k) a) s).c.length=s.c.length∧whites ((l.take i).foldr (visStep (visP nx k) a) s).c≤whites s.c∧((l.take i).foldr (visStep (visP nx k) a) s).l.length+whites ((l.take i).foldr (visStep (visP nx k) a) s).c≤s.l.length+whites s.c∧((l.take i).foldr (visStep (visP nx k) a) s).b.length+2*whites ((l.take i).foldr (visStep (visP nx k) a) s).c≤s.b.length+2*whites s.c+i∧m'.n+40*whites ((l.take i).foldr (visStep (visP nx k) a) s).c≤m.n+40*whites s.c+2*i
 | 0,_,N,m,va,vb,s,T,hN,hv,hcl,hw,hmn,hll,hbl,hr,hsf,hk=>by
  have d0:decide ((0:Int)≤((0:Nat):Int) - 1)=false:=by decide
  obtain ⟨v1,v2,v3,v4⟩:=hr.plain
  rw [List.take_zero]
  refine ⟨_,m,va,vb,by rw [a105_L1_step]; unfold a105_B1; simp only [KK,Nat.reduceEqDiff,Nat.reduceLT,hk,d0]; rfl,by simp only [keepT,List.map,look_set,look_cons,in_int,in_ptr,Nat.reduceEqDiff,if_true,if_false],hv,WkS.refl _ _ _ _ _,rfl,Nat.le_refl _,Nat.le_refl _,Nat.le_refl _,Nat.le_refl _⟩
 | i+1,hi,N,m,va,vb,s,T,hN,hv,hcl,hw,hmn,hll,hbl,hr,hsf,hk=>by
  obtain ⟨n,rfl⟩:∃ n,N=n+1:=⟨N - 1,by omega⟩
  have hil:i < l.length:=by omega
  have hx:l[i]?=some l[i]:=List.getElem?_eq_getElem hil
  have hi1:((i+1:Nat):Int) - 1=(i:Int):=by omega
  rw [hi1] at hk
  obtain ⟨T1,m1,va1,vb1,c1,k1,hv1,st1,q1,q2,q3,q4,q5⟩:=wl_step k m0 I M W K n1 nx hrec (n+1) (by omega) m va vb s hv hcl hw a l i l[i] hx (hin _ (List.getElem_mem hil)) (by omega) (by omega) hll (by omega) v hr T hk
  have hlow:=hr.low (by omega)
  have hr1:RS (fun z=>[AV.int .i64 z]) 1 m1 v l:=hr.frame fun b hb hu=>(st1.safe hv (hsf b hu hb)).1
  obtain ⟨T',m',va',vb',c2,k2,hv',st',p1,p2,p3,p4,p5⟩:=wl_loop k m0 I M W K n1 nx hrec hcm a l hin hll2 v i (by omega) n m1 va1 vb1 _ T1 (by omega) hv1 (q1.trans hcl) (by omega) (by omega) (by omega) (by omega) hr1 (fun b hb _=>(st1.safe hv (hsf b hb (hlow b hb))).2) k1
  have htk:l.take (i+1)=l.take i++[l[i]]:=List.take_succ_eq_append_getElem hil
  rw [htk,List.foldr_append]
  simp only [List.foldr_cons,List.foldr_nil]
  refine ⟨T',m',va',vb',?_,k2,hv',st1.trans st',by omega,by omega,by omega,by omega,by omega⟩
  rw [a105_L1_step,c1]
  dsimp only
  rw [again_of]
  exact c2
theorem wl_loopq (k:Nat) (m0:Mem) (I:ImV) (M:Img) (W K n1:Nat) (nx:Nat→List Int) (hrec:RecW m0 I M W K n1 nx k) (hcm:M.code.length≤1000000) (a:Nat) (l:List Int) (hin:∀ x∈l,0≤x∧x < (M.code.length:Int)) (hll2:l.length≤2) (v:AV) (N:Nat) (m:Mem) (va vb:AV) (s:DS) (T:List (Nat×AV)) (q:Option (Ex×St)) (hN:42+8*k≤N) (hv:WkM m0 I M W K n1 m va vb s) (hcl:s.c.length=M.code.length) (hw:whites s.c≤k) (hmn:m.n+40*whites s.c+24≤2 ^ depth) (hll:s.l.length+whites s.c≤100000) (hbl:s.b.length+2*whites s.c+2≤300000)
  (hr:RS (fun z=>[AV.int .i64 z]) 1 m v l) (hsf:∀ b,blkOf v=some b→b < m.n→WSafe n1 va vb m b) (hk:keepT [0,1,4,5] [] T=[(0,.ptr W 0),(1,.int .i64 (a:Int)),(4,v),(5,.int .i64 ((l.length:Int) - 1))]) (hq:codeEv (run A N) (ev A N).2 a105_L1 ⟨73,T,[],m⟩=q):
  ∃ T' m' va' vb',q=some (.exit 0,⟨73,T',[],m'⟩)∧keepT [0,1] [] T'=[(0,.ptr W 0),(1,.int .i64 (a:Int))]∧WkM m0 I M W K n1 m' va' vb' (l.foldr (visStep (visP nx k) a) s)∧WkS W K va vb m va' vb' m'∧(l.foldr (visStep (visP nx k) a) s).c.length=s.c.length∧whites (l.foldr (visStep (visP nx k) a) s).c≤whites s.c∧(l.foldr (visStep (visP nx k) a) s).l.length+whites (l.foldr (visStep (visP nx k) a) s).c≤s.l.length+whites s.c∧(l.foldr (visStep (visP nx k) a) s).b.length+2*whites (l.foldr (visStep (visP nx k) a) s).c≤s.b.length+2*whites s.c+2∧m'.n+40*whites (l.foldr (visStep (visP nx k) a) s).c≤m.n+40*whites s.c+2*2:=by
 obtain ⟨T',m',va',vb',c,k1,hv',st,p1,p2,p3,p4,p5⟩:=wl_loop k m0 I M W K n1 nx hrec hcm a l hin (by omega) v l.length (Nat.le_refl _) N m va vb s T (by omega) hv hcl hw (by omega) hll (by omega) hr hsf hk
 rw [List.take_length] at hv' p1 p2 p3 p4 p5
 exact ⟨T',m',va',vb',hq.symm.trans c,k1,hv',st,p1,p2,p3,by omega,by omega⟩
theorem go1_run (m0:Mem) (I:ImV) (M:Img) (hm:IM m0 I M) (hco:CodesOk M) (hni:NextIn M) (hlc:M.code.length≤100000) (W K n1:Nat):∀ k,RecW m0 I M W K n1 (nextAt M) k
 | 0=>fun N m va vb s a _ _ _ hw ha _ _ _=>by
  have:=whites_set s.c a 1 ha (by omega)
  omega
 | k+1=>by
  have hrec:=go1_run m0 I M hm hco hni hlc W K n1 k
  intro N m va vb s a hN hv hcl hw ha hmn hll hbl
  obtain ⟨n,rfl⟩:∃ n,N=n+1:=⟨N - 1,by omega⟩
  have hP:=hm.pls
  have hal:a < s.c.length:=(List.getElem?_eq_some_iff.1 ha).1
  obtain ⟨x,hx⟩:∃ x,M.code[a]?=some x:=⟨_,List.getElem?_eq_getElem (by omega)⟩
  have hw1:=whites_set s.c a 1 ha (by omega)
  have hhi:=hv.hi
  have hnn:=hv.nn
  have gw:=hv.gw
  obtain ⟨m1,hp1,n1',hv1,f1⟩:=hv.col a 1 (by omega)
  replace hp1:xmEv (.mup .int) [.map K,.int .i64 (a:Int),.int .i64 1] m=some (.unk,m1):=hp1
  have gw1:=hv1.gw
  obtain ⟨u,m2,hst,hrs,hgr⟩:=steps_run n (by omega) m1 I M (hm.ext hv1.ext) a x hx (hco a x hx) (by omega) (by omega)
  have hgn:=hgr.2
  have hg1:=hgr.1.1
  obtain ⟨u1,u2,u3,u4⟩:=hrs.pl
  have hv2:=hv1.up hgr.1
  have hrs':RS (fun z=>[AV.int .i64 z]) 1 m2 u (nextI x a):=hrs.rs
  have ll:=hrs'.lenR
  have hle2:=nextI_len x a
  have hsb:=sub_i (nextI x a).length (by omega)
  have hol:=hv.ol.blk
  have hob:=hv.ob.blk
  have hsf:∀ b,blkOf u=some b→b < m2.n→WSafe n1 va vb m2 b:=fun b hb hlt=>by
   have:=hrs.far b hb
   exact ⟨by omega,hlt,fun e=>by have:=(hol _ e).2; omega,fun e=>by have:=(hob _ e).2; omega⟩
  rw [run_105]
  unfold fnEv a105
  simp only [KK,opE_mkslc,lookL,setL,Nat.reduceEqDiff,Nat.reduceAdd,Nat.reduceLeDiff,Nat.reduceLT,Nat.reducePow,Nat.mul_one,opE_nilck,nilR_ptr,opE_xm,gw,hp1,gw1,hst,u1,ll,hsb]
  generalize hq:codeEv (run A n) (ev A n).2 a105_L1 _=q
  obtain ⟨T3,m5,va5,vb5,rfl,k3,hv5,st5,w1,w2,w3,w4,w5⟩:=wl_loopq k m0 I M W K n1 (nextAt M) hrec (by omega) a (nextI x a) (hni a x hx) hle2 u n m2 va vb (greyS a s) _ q (by omega) hv2
   (by rw [greyS]; dsimp only; rw [List.length_set]; exact hcl) (by rw [greyS]; dsimp only; omega) (by rw [greyS]; dsimp only; omega) (by rw [greyS]; dsimp only; omega) (by rw [greyS]; dsimp only; omega) hrs' hsf (by simp only [keepT,List.map,look_set,look_cons,in_int,in_ptr,Nat.reduceEqDiff,if_true,if_false,u1]) hq
  have e5:visP (nextAt M) (k+1) a s=endS a ((nextI x a).foldr (visStep (visP (nextAt M) k) a) (greyS a s)):=by
   rw [visP]
   unfold nextAt
   rw [hx]
  rw [e5]
  have w1':((nextI x a).foldr (visStep (visP (nextAt M) k) a) (greyS a s)).c.length=s.c.length:=w1.trans (by rw [greyS]; dsimp only; rw [List.length_set])
  rw [greyS] at w2 w3 w4 w5
  dsimp only at w2 w3 w4 w5
  rw [←greyS] at w2 w3 w4 w5
  generalize (nextI x a).foldr (visStep (visP (nextAt M) k) a) (greyS a s)=s5 at*
  have y5:=whites_set2 s5.c a 2 (by omega)
  have gw5:=hv5.gw
  obtain ⟨m6,hp6,n6,hv6,f6⟩:=hv5.col a 2 (by omega)
  replace hp6:xmEv (.mup .int) [.map K,.int .i64 (a:Int),.int .i64 2] m5=some (.unk,m6):=hp6
  have gw6:=hv6.gw
  have st6:WkS W K va5 vb5 m5 va5 vb5 m6:=⟨f6,fun _ h=>.inl h,fun _ h=>.inl h⟩
  obtain ⟨m7,happ,h75,n7,hv7,f7⟩:=hv6.addl (a:Int) (by omega) (by dsimp only; omega)
  dsimp only at happ h75 n7 hv7 f7
  have hf6:=not_full (m:=m6) (by omega)
  have st7:WkS W K va5 vb5 m6 (.slice (m6.n+1) 0 (s5.l.length+1) none 1) vb5 (m7.set W _):=⟨f7,fun j hj=>.inr (by cases hj; omega),fun _ h=>.inl h⟩
  have st1:WkS W K va vb m va vb m1:=⟨f1,fun _ h=>.inl h,fun _ h=>.inl h⟩
  have st2:WkS W K va vb m1 va vb m2:=⟨⟨hgr.1.1,fun j hj _ _ _ _=>hgr.1.2 j hj⟩,fun _ h=>.inl h,fun _ h=>.inl h⟩
  refine ⟨_,_,vb5,?_,hv7,st1.trans (st2.trans (st5.trans (st6.trans st7))),?_,?_,?_,?_,?_⟩
  ·simp only [KK,Nat.reduceEqDiff,Nat.reduceAdd,Nat.reduceLeDiff,Nat.reduceLT,nilR_ptr,k3,gw5,hp6,gw6,hf6,zer1,happ,h75]
  ·rw [endS]; dsimp only; rw [List.length_set]; exact w1'
  ·rw [endS]; dsimp only; omega
  ·rw [endS]; dsimp only; rw [List.length_append,List.length_singleton]; omega
  ·rw [endS]; dsimp only; omega
  ·rw [endS,set_n]; dsimp only; omega
end AG
