/- What the functions that read images and paths compute, and the laws of that. -/
import Derived.Test.YtkmbepgofajfkaaDoorAgPl
namespace AG
open Go Go.Proofs.YtkmbepgofajfkaaDoor
set_option maxRecDepth 100000
set_option maxHeartbeats 4000000
theorem on_rec (m0:Mem) (I:ImV) (M:Img) (hm0:IM m0 I M) (hco:CodesOk M) (hni:NextIn M) (hlc:M.code.length≤20000) (most:Int) (kk:Nat) (hLk:∀ k,kk=k+1→Lp k≤10000) (hrec:∀ k,kk=k+1→RecO m0 I M most k):RecO m0 I M most kk:=by
 intro N m w l a hN he hw ha hl0 hml hl20 hac hmn
 obtain ⟨n,rfl⟩:∃ n,N=n+1:=⟨N - 1,by omega⟩
 have hm:=hm0.ext he
 have hP:=hm.pls
 obtain ⟨w1,w2,w3,w4⟩:=hw.plain
 have hLp1:1≤Lp kk:=by cases kk <;> simp [Lp]
 have hf0:=not_full (m:=m) (by omega)
 have hcw:=copy_way hw hl0 (by omega) (by omega)
 have f1:=not_full (m:=m.push (.cells [] true)) (by rw [push_n]; omega)
 have x1:Ext m (m.push (.cells [] true)):=(Ext.refl m).push _ (by omega)
 have x2:Ext m ((m.push (.cells [] true)).push (.cells (l.map fun z=>AV.int .i64 z) true)):=x1.push _ (by rw [push_n]; omega)
 have n2:((m.push (.cells [] true)).push (.cells (l.map fun z=>AV.int .i64 z) true)).n=m.n+2:=by rw [push_n,push_n]
 have g2:((m.push (.cells [] true)).push (.cells (l.map fun z=>AV.int .i64 z) true)).get (m.n+1)=some (.cells (l.map fun z=>AV.int .i64 z) true):=by
  have:=Mem.get_push_new (m:=m.push (.cells [] true)) (.cells (l.map fun z=>AV.int .i64 z) true)
  rw [push_n] at this
  exact this
 generalize hm2:(m.push (.cells [] true)).push (.cells (l.map fun z=>AV.int .i64 z) true)=m2 at*
 have f2:=not_full (m:=m2) (by omega)
 have x3:Ext m2 (m2.push (.cells [.slice (m.n+1) 0 l.length none 1] true)):=(Ext.refl _).push _ (by omega)
 have g3:=Mem.get_push_new (m:=m2) (.cells [.slice (m.n+1) 0 l.length none 1] true)
 have n3:=push_n m2 (.cells [.slice (m.n+1) 0 l.length none 1] true)
 generalize hm3:m2.push (.cells [.slice (m.n+1) 0 l.length none 1] true)=m3 at*
 have e3:=x2.trans x3
 have oc:IS m.n m3 (.slice (m.n+1) 0 l.length none 1) l:=.inr ⟨m.n+1,by omega,rfl,(x3.2 _ (by omega)).trans g2,by simp⟩
 have ho:OX 1 m.n m3 (.slice m2.n 0 1 (some 1) 1) [.slice (m.n+1) 0 l.length none 1] [AV.slice (m.n+1) 0 l.length none 1].length:=.inr ⟨m2.n,some 1,by omega,rfl,.inr rfl,g3,rfl⟩
 have hr:Rows m3 (.slice m2.n 0 1 (some 1) 1) [.slice (m.n+1) 0 l.length none 1] [l]:=⟨rfl,fun i x q hx hq=>by
  match i,hx,hq with
  | 0,hx,hq=>
   cases hx; cases hq
   exact ⟨oc.rs,fun b hb=>by cases hb; exact ⟨by omega,fun e=>by have e2:m2.n=m.n+1:=Option.some.inj e; omega⟩⟩
  | i+1,hx,_=>simp at hx⟩
 have hb0:∀ z∈[AV.slice (m.n+1) 0 l.length none 1],∀ b,blkOf z=some b→m.n≤b:=fun z hz b hb=>by
  rw [List.mem_singleton.1 hz] at hb
  cases hb; omega
 obtain ⟨bw,capw,oww,ew,gwm⟩:=hw
 have lw:∀ s:St,lenR w s=some (.int .i64 (l.length:Int),s):=fun s=>by rw [ew]; rfl
 rw [run_89]
 unfold fnEv a89
 match kk,hLk,hrec,hml,hl20,hmn,hLp1,hN with
 | 0,hLk,hrec,hml,hl20,hmn,hLp1,hN=>
  have d1:decide (most≤(l.length:Int))=true:=decide_eq_true (by omega)
  refine ⟨.slice m2.n 0 1 (some 1) 1,m3,_,?_,ho,?_,hb0,e3,by omega⟩
  ·simp only [KK,opE_mkslc,Nat.reduceEqDiff,Nat.reduceAdd,Nat.reduceLeDiff,Nat.reduceLT,Nat.reducePow,Nat.mul_one,hf0,zer0,w1,hcw,f2,zerN,hm3,lw,d1]
  ·rw [ptree]; exact hr
 | k+1,hLk,hrec,hml,hl20,hmn,hLp1,hN=>
  have hLk':=hLk k rfl
  have hrec':=hrec k rfl
  have hLe:Lp (k+1)=1+2*Lp k:=rfl
  have d1:decide (most≤(l.length:Int))=false:=decide_eq_false (by omega)
  obtain ⟨x,hx⟩:∃ x,M.code[a]?=some x:=⟨_,List.getElem?_eq_getElem hac⟩
  have hna:nextAt M a=nextI x (a:Int):=by unfold nextAt; rw [hx]
  obtain ⟨u,m4,hst,hou,hg4⟩:=steps_run n (by omega) m3 I M (hm.ext e3) a x hx (hco a x hx) (by omega) (by omega)
  rw [←hna] at hou
  have hg4n:=hg4.2
  have hg4l:=hg4.1.1
  obtain ⟨u1,u2,u3,u4⟩:=hou.pl
  have hou':IS m3.n m4 u (nextAt M a):=hou
  have bu:=OS.blk hou'
  have hsb:=sub_i l.length (by omega)
  have hl1:((l.length:Int) - 1)=((l.length - 1:Nat):Int):=by omega
  rw [hl1] at hsb
  have wl:RS (fun z=>[AV.int .i64 z]) 1 m3 w l:=by
   rw [ew]
   refine .inr ⟨bw,0,capw,1,rfl,fun i z hz=>⟨_,_,(e3.2 _ (Mem.get_lt gwm)).trans gwm,?_⟩⟩
   have:=flat_cells (fun z:Int=>[AV.int .i64 z]) 1 (fun _=>rfl) hz
   rwa [flat_one] at this
  obtain ⟨j1,j2,j3,j4,c1,c2,c3⟩:=wl.i1 ha
  simp only [KK,opE_mkslc,Nat.reduceEqDiff,Nat.reduceAdd,Nat.reduceLeDiff,Nat.reduceLT,Nat.reducePow,Nat.mul_one,AOp.kd,kd_rm,logOk_nil',hf0,zer0,w1,hcw,f2,zerN,hm3,lw,d1,hsb,c1,c2,c3,hst,u1]
  generalize hq:codeEv (run A n) (ev A n).2 a89_L1 _=q
  have e4:=e3.trans hg4.1
  have hnl:=next_len M a
  have hs:=scan0 (A:=A) a89_L1 a89_B1 a89_L1_step
   (fun i (acc:List (List Int)) s=>∃ T L m5 v7 ws,s=⟨48,T,L,m5⟩∧keepT [1,2,3,7,8,9] [3] T=[(1,w),(2,.int .i64 most),(3,.loc 3 0),(7,v7),(8,u),(9,.int .i64 (i:Int))]∧lookL L 3=some (ic I M)∧OX 1 m.n m5 v7 ws ws.length∧Rows m5 v7 ws acc∧(∀ z∈ws,∀ b,blkOf z=some b→m.n≤b)∧Ext m m5∧m4.n≤m5.n∧m5.n≤m4.n+i*(30*Lp k+5)∧ws.length≤1+i*Lp k∧RS (fun z=>[AV.int .i64 z]) 1 m5 u (nextAt M a)∧∀ b,blkOf u=some b→b < m5.n∧blkOf v7≠some b)
   (fun acc s=>∃ T L m5 v7 ws,s=⟨48,T,L,m5⟩∧keepT [7] [] T=[(7,v7)]∧OX 1 m.n m5 v7 ws ws.length∧Rows m5 v7 ws acc∧(∀ z∈ws,∀ b,blkOf z=some b→m.n≤b)∧Ext m m5∧m5.n≤m4.n+(nextAt M a).length*(30*Lp k+5))
   (fun (_:Unit) s=>False) 0 (40+8*k) (appL fun z:Int=>ptree M k (l++[z]) z.toNat) (nextAt M a)
   (fun N acc s hN ⟨T,L,m5,v7,ws,hs,hk,hL,hv,hr,hb,hx5,hn5,hn5',hwl,hu5,huv⟩=>by
    subst hs
    have h':¬((nextAt M a).length:Int) < ((nextAt M a).length:Int):=by omega
    obtain ⟨v1,v2,v3,v4⟩:=hv.plain
    have lu:=hu5.lenR
    unfold a89_B1
    exact ⟨_,by simp only [KK,Nat.reduceEqDiff,Nat.reduceLT,hk,hL,h',lu]; rfl,_,_,m5,v7,ws,rfl,by simp only [keepT,List.map,look_set,look_cons,Nat.reduceEqDiff,if_true,if_false,v1],hv,hr,hb,hx5,hn5'⟩)
   (fun N i z acc s hN hz ⟨T,L,m5,v7,ws,hs,hk,hL,hv,hr,hb,hx5,hn5,hn5',hwl,hu5,huv⟩=>by
    subst hs
    have hi2:i < 2:=by have:=(List.getElem?_eq_some_iff.1 hz).1; omega
    have hi3:i*(30*Lp k+5)≤1*(30*Lp k+5):=Nat.mul_le_mul_right _ (by omega)
    have hi4:i*Lp k≤1*Lp k:=Nat.mul_le_mul_right _ (by omega)
    have hzin:=nextAt_in hni (List.mem_of_getElem? hz)
    have bv:=hv.blk
    obtain ⟨T',L',m6,v',ws',hc,hk',hL',hv',hr',hb',hbv',hwl',hn6,hn6',hkp⟩:=on_child k m0 I M hm0 most hrec' m.n N hN m5 (he.trans hx5) w l (WayOk.ext ⟨bw,capw,oww,ew,gwm⟩ hx5) hl0 hml (by omega) u (nextAt M a) hu5 i z hz hzin hnl v7 ws acc hv hr (by omega) hx5.1 (fun b hb e=>by
      rw [ew] at hb; cases hb
      have h1:=Mem.get_lt gwm; have h2:=(bv _ e).1; omega) huv hLk' (by omega) T L hk hL
    unfold appL
    dsimp only
    refine ⟨_,hc,T',L',m6,v',ws++ws',rfl,hk',hL',hv',hr',fun y hy b hyb=>?_,⟨by have:=hx5.1; omega,fun j hj=>(hkp j (by have:=hx5.1; omega) (fun e=>by have:=(bv _ e).1; omega)).trans (hx5.2 j hj)⟩,by omega,by rw [Nat.succ_mul]; omega,by rw [List.length_append,Nat.succ_mul]; omega,hu5.frame (fun b hbl hub=>hkp b hbl (huv b hub).2),fun b hub=>⟨by have:=(huv b hub).1; omega,fun e=>by have h1:=hbv' b e; have h2:=(huv b hub).1; omega⟩⟩
    rcases List.mem_append.1 hy with h | h
    ·exact hb y h b hyb
    ·have:=hb' y h b hyb; have:=hx5.1; omega)
   n [l] _ (by omega) ⟨_,_,m4,.slice m2.n 0 1 (some 1) 1,_,rfl,by simp only [keepT,List.map,look_set,look_cons,in_int,in_slice,in_loc,Nat.reduceEqDiff,if_true,if_false,List.contains_cons,List.contains_nil,beq_self_eq_true,Bool.or_false,w1,u1]; rfl,by simp only [lookL_cons,if_true],ho.ext hg4.1,⟨hr.1,fun i z q hz hq=>⟨(hr.2 i z q hz hq).1.ext hg4.1,fun b hb=>⟨by have:=((hr.2 i z q hz hq).2 b hb).1; omega,((hr.2 i z q hz hq).2 b hb).2⟩⟩⟩,hb0,e4,Nat.le_refl _,by omega,by simp,hou'.rs,fun b hb=>⟨(bu b hb).2,fun e=>by cases e; have:=(bu _ hb).1; omega⟩⟩ hq
  rw [fold_appL] at hs
  obtain ⟨s',e,T',L',m5,v7,ws,rfl,hk',hv,hr5,hb,hx5,hn5⟩:=hs
  subst e
  obtain ⟨v1,v2,v3,v4⟩:=hv.plain
  have hi3:(nextAt M a).length*(30*Lp k+5)≤2*(30*Lp k+5):=Nat.mul_le_mul_right _ hnl
  refine ⟨v7,m5,ws,?_,hv,?_,hb,hx5,by omega⟩
  ·simp only [look_set,look_nil,look_cons,Nat.reduceEqDiff,Nat.reduceLT,if_true,if_false,Bool.false_eq_true,Nat.succ_ne_self,hk',v2]
  ·rw [ptree]; exact hr5
theorem on_all (m0:Mem) (I:ImV) (M:Img) (hm0:IM m0 I M) (hco:CodesOk M) (hni:NextIn M) (hlc:M.code.length≤20000) (most:Int):∀ k,Lp k≤10000→RecO m0 I M most k
 | 0,_=>on_rec m0 I M hm0 hco hni hlc most 0 (fun k e=>by omega) (fun k e=>by omega)
 | k+1,h=>by
  have h2:Lp k≤10000:=by have:Lp (k+1)=1+2*Lp k:=rfl; omega
  exact on_rec m0 I M hm0 hco hni hlc most (k+1) (fun j e=>by cases e; exact h2) (fun j e=>by cases e; exact on_all m0 I M hm0 hco hni hlc most k h2)
def pathsP (M:Img) (f n:Int):List (List Int):=if checkI M=0∧0≤f∧f < (M.funcs.length:Int)∧1≤n then ptree M (n.toNat - 1) [fromP M f.toNat] (fromP M f.toNat).toNat else []
theorem AS.nil (m:Mem):AS m .nils []:=⟨[],.inl ⟨rfl,rfl⟩,rfl,fun i w l h=>by simp at h⟩
theorem paths_none (N:Nat) (m0:Mem) (NC KC:Nat) (m:Mem) (I:ImV) (M:Img) (hm:IM m I M) (hck:CkOk m0 I M NC KC 54 (checkI M)) (he:Ext m0 m) (f most:Int) (hm1:1≤most) (hm12:most≤12) (hv:¬(checkI M=0∧0≤f∧f < (M.funcs.length:Int))) (hmn:m.n+KC+3≤2 ^ depth) (hN:NC+2≤N):∃ m',run A N 44 [.agg (ic I M),.int .i64 f,.int .i64 most] m=some (.nils,m')∧Gr m m' (KC+2):=by
 obtain ⟨n,rfl⟩:∃ n,N=n+1:=⟨N - 1,by omega⟩
 have hP:=hm.pls
 have hf:=not_full (m:=m) (by omega)
 have x1:Ext m (m.push (.cells (ic I M) true)):=(Ext.refl m).push _ (by omega)
 have hf2:=not_full (m:=m.push (.cells (ic I M) true)) (by rw [push_n]; omega)
 have x2:Ext m ((m.push (.cells (ic I M) true)).push (.cells [.int .i64 most] true)):=x1.push _ (by rw [push_n]; omega)
 have g3:((m.push (.cells (ic I M) true)).push (.cells [.int .i64 most] true)).get m.n=some (.cells (ic I M) true):=(Mem.get_push_old _ hf2 (by rw [push_n]; omega)).trans (Mem.get_push_new _)
 have g2:((m.push (.cells (ic I M) true)).push (.cells [.int .i64 most] true)).get (m.n+1)=some (.cells [.int .i64 most] true):=by
  have:=Mem.get_push_new (m:=m.push (.cells (ic I M) true)) (.cells [.int .i64 most] true)
  rw [push_n] at this
  exact this
 have hn2:((m.push (.cells (ic I M) true)).push (.cells [.int .i64 most] true)).n=m.n+2:=by rw [push_n,push_n]
 generalize hm2:(m.push (.cells (ic I M) true)).push (.cells [.int .i64 most] true)=m2 at*
 have hle:m2.n≤2 ^ depth:=by omega
 have hlt:m.n+1 < m2.n:=by omega
 have g2':(m2.set (m.n+1) (.cells [.int .i64 most] true)).get (m.n+1)=some (.cells [.int .i64 most] true):=Mem.get_set_same _ hlt
 have g3':(m2.set (m.n+1) (.cells [.int .i64 most] true)).get m.n=some (.cells (ic I M) true):=(Mem.get_set_ne _ hle hlt (by omega)).trans g3
 have hmin:(if 12 < most then (12:Int) else most)=most:=if_neg (by omega)
 have hd3:decide (most < 1)=false:=decide_eq_false (by omega)
 have x3:Ext m (m2.set (m.n+1) (.cells [.int .i64 most] true)):=⟨by rw [set_n]; omega,fun i hi=>(Mem.get_set_ne _ hle hlt (by omega)).trans (x2.2 i hi)⟩
 have n3:(m2.set (m.n+1) (.cells [.int .i64 most] true)).n=m.n+2:=by rw [set_n]; exact hn2
 rw [run_44]
 unfold fnEv a44
 generalize hm3:m2.set (m.n+1) (.cells [.int .i64 most] true)=m3 at*
 by_cases h0:f < 0
 ·have d1:decide (f < 0)=true:=decide_eq_true h0
  exact ⟨m3,by simp only [KK,Nat.reduceEqDiff,Nat.reduceAdd,Nat.reduceLeDiff,Nat.reduceLT,push_n,hf,hf2,push_n,hm2,g2,min12,hmin,hm3,d1],⟨x3,by omega⟩⟩
 have d1:decide (f < 0)=false:=decide_eq_false h0
 by_cases hl:(M.funcs.length:Int)≤f
 ·have d2:decide ((M.funcs.length:Int)≤f)=true:=decide_eq_true hl
  exact ⟨m3,by simp only [KK,Nat.reduceEqDiff,Nat.reduceAdd,Nat.reduceLeDiff,Nat.reduceLT,push_n,hP,hf,hf2,push_n,hm2,g2,min12,hmin,hm3,g3',d1,d2],⟨x3,by omega⟩⟩
 have d2:decide ((M.funcs.length:Int)≤f)=false:=decide_eq_false hl
 have hc:¬checkI M=0:=fun h=>hv ⟨h,by omega,by omega⟩
 have d4:decide (checkI M=0)=false:=decide_eq_false hc
 obtain ⟨m4,hr,hg⟩:=hck n m3 (by omega) (he.trans x3) (by omega)
 have hgn:=hg.2
 exact ⟨m4,by simp only [KK,Nat.reduceEqDiff,Nat.reduceAdd,Nat.reduceLeDiff,Nat.reduceLT,push_n,hP,hf,hf2,push_n,hm2,g2,min12,hmin,hm3,g2',g3',d1,d2,hd3,hr,d4],⟨x3.trans hg.1,by omega⟩⟩
theorem Lp_le:∀ k,k≤11→Lp k≤4095
 | 0,_ | 1,_ | 2,_ | 3,_ | 4,_ | 5,_ | 6,_ | 7,_ | 8,_ | 9,_ | 10,_ | 11,_=>by decide
 | k+12,h=>by omega
theorem Cp_le:∀ k,k≤11→Cp k≤Cp 11
 | 0,_ | 1,_ | 2,_ | 3,_ | 4,_ | 5,_ | 6,_ | 7,_ | 8,_ | 9,_ | 10,_ | 11,_=>by decide
 | k+12,h=>by omega
theorem pathsG_run (N:Nat) (m:Mem) (I:ImV) (M:Img) (hm:IM m I M) (hT:Tab m) (m0:Mem) (NC KC:Nat) (hck:CkOk m0 I M NC KC 54 (checkI M)) (he:Ext m0 m) (hlc:M.code.length≤100000) (f n:Int) (hn12:n≤12) (hmn:m.n+KC+Cp 11+40≤2 ^ depth) (hN:NC+160≤N):
  ∃ v m',run A N 44 [.agg (ic I M),.int .i64 f,.int .i64 n] m=some (v,m')∧AS m' v (pathsP M f n)∧Gr m m' (KC+Cp 11+20):=by
 by_cases h1:n < 1
 ·obtain ⟨m',hr,hg⟩:=paths_zero N (by omega) m I M hm f n h1 (by omega)
  have hz:pathsP M f n=[]:=by unfold pathsP; exact if_neg (fun h=>by omega)
  rw [hz]
  exact ⟨.nils,m',hr,AS.nil m',hg.le (by omega)⟩
 by_cases hv:checkI M=0∧0≤f∧f < (M.funcs.length:Int)
 ·obtain ⟨hc,h0,hl⟩:=hv
  obtain ⟨g,rfl⟩:∃ g:Nat,f=(g:Int):=⟨f.toNat,by omega⟩
  obtain ⟨k,rfl⟩:∃ k:Nat,n=((k+1:Nat):Int):=⟨n.toNat - 1,by omega⟩
  have hz:pathsP M (g:Int) ((k+1:Nat):Int)=ptree M k [fromP M g] (fromP M g).toNat:=by
   unfold pathsP
   rw [if_pos ⟨hc,h0,hl,by omega⟩,Int.toNat_natCast,Int.toNat_natCast,Nat.add_sub_cancel]
  rw [hz]
  rw [hc] at hck
  have hk:=Cp_le k (by omega)
  have hL:=Lp_le k (by omega)
  obtain ⟨v,m',h2,h3,h4⟩:=paths_run N m I M hm hT m0 NC KC hck he (codes_ok hc) (next_in hc) hlc g (by omega) (entry_in hc (by omega)) k (by omega) (by omega) hN (by omega)
  exact ⟨v,m',h2,h3,h4.le (by omega)⟩
 ·obtain ⟨m',hr,hg⟩:=paths_none N m0 NC KC m I M hm hck he f n (by omega) hn12 hv (by omega) (by omega)
  have hz:pathsP M f n=[]:=by unfold pathsP; exact if_neg (fun h=>hv ⟨h.1,h.2.1,h.2.2.1⟩)
  rw [hz]
  exact ⟨.nils,m',hr,AS.nil m',hg.le (by omega)⟩
theorem Rows.asX {n0:Nat} {m:Mem} {a:AV} {ws:List AV} {ls:List (List Int)} (h:Rows m a ws ls) (ho:OX 1 n0 m a ws ws.length):AS m a ls:=by
 refine ⟨ws,OX.rs (f:=fun w:AV=>[w]) (c:=1) (n0:=n0) (fun _=>rfl) ?_,h.1,fun i w l hw hl=>.inl (h.2 i w l hw hl).1⟩
 have e:(ws.flatMap fun w=>[w])=ws:=by simp
 rw [e]
 exact ho
theorem rPaths_run (N:Nat) (m:Mem) (I:ImV) (M:Img) (hm:IM m I M) (m0:Mem) (NC KC:Nat) (hck:CkOk m0 I M NC KC 37 (checkI M)) (he:Ext m0 m) (hlc:M.code.length≤20000) (f n:Int) (hn12:n≤12) (hmn:m.n+KC+130000≤2 ^ depth) (hN:NC+160≤N):
  ∃ v m',run A N 53 [.agg (ic I M),.int .i64 f,.int .i64 n] m=some (v,m')∧AS m' v (pathsP M f n)∧Gr m m' (KC+130000):=by
 obtain ⟨Nn,rfl⟩:∃ Nn,N=Nn+1:=⟨N - 1,by omega⟩
 have hP:=hm.pls
 obtain ⟨m1,hr,hg⟩:=hck Nn m (by omega) he (by omega)
 have hgn:=hg.2
 rw [run_53]
 unfold fnEv a53
 by_cases hc:checkI M=0
 rotate_left
 ·have hz:pathsP M f n=[]:=by unfold pathsP; exact if_neg (fun h=>hc h.1)
  rw [hz]
  have d1:decide (checkI M=0)=false:=decide_eq_false hc
  exact ⟨.nils,m1,by simp only [KK,Nat.reduceEqDiff,Nat.reduceAdd,Nat.reduceLeDiff,Nat.reduceLT,hr,d1],AS.nil _,hg.le (by omega)⟩
 have d1:decide (checkI M=0)=true:=decide_eq_true hc
 by_cases h0:f < 0
 ·have hz:pathsP M f n=[]:=by unfold pathsP; exact if_neg (fun h=>by omega)
  rw [hz]
  have d2:decide (f < 0)=true:=decide_eq_true h0
  exact ⟨.nils,m1,by simp only [KK,Nat.reduceEqDiff,Nat.reduceAdd,Nat.reduceLeDiff,Nat.reduceLT,hr,d1,d2],AS.nil _,hg.le (by omega)⟩
 have d2:decide (f < 0)=false:=decide_eq_false h0
 by_cases hl:(M.funcs.length:Int)≤f
 ·have hz:pathsP M f n=[]:=by unfold pathsP; exact if_neg (fun h=>by omega)
  rw [hz]
  have d3:decide ((M.funcs.length:Int)≤f)=true:=decide_eq_true hl
  exact ⟨.nils,m1,by simp only [KK,Nat.reduceEqDiff,Nat.reduceAdd,Nat.reduceLeDiff,Nat.reduceLT,hP,hr,d1,d2,d3],AS.nil _,hg.le (by omega)⟩
 have d3:decide ((M.funcs.length:Int)≤f)=false:=decide_eq_false hl
 by_cases h1:n < 1
 ·have hz:pathsP M f n=[]:=by unfold pathsP; exact if_neg (fun h=>by omega)
  rw [hz]
  have d4:decide (n < 1)=true:=decide_eq_true h1
  exact ⟨.nils,m1,by simp only [KK,Nat.reduceEqDiff,Nat.reduceAdd,Nat.reduceLeDiff,Nat.reduceLT,hP,hr,d1,d2,d3,d4],AS.nil _,hg.le (by omega)⟩
 have d4:decide (n < 1)=false:=decide_eq_false h1
 obtain ⟨g,rfl⟩:∃ g:Nat,f=(g:Int):=⟨f.toNat,by omega⟩
 obtain ⟨k,rfl⟩:∃ k:Nat,n=((k+1:Nat):Int):=⟨n.toNat - 1,by omega⟩
 have hgl:g < M.funcs.length:=by omega
 have hz:pathsP M (g:Int) ((k+1:Nat):Int)=ptree M k [fromP M g] (fromP M g).toNat:=by
  unfold pathsP
  rw [if_pos ⟨hc,by omega,by omega,by omega⟩,Int.toNat_natCast,Int.toNat_natCast,Nat.add_sub_cancel]
 rw [hz]
 have hL:=Lp_le k (by omega)
 have hm1:=hm.ext hg.1
 obtain ⟨x,hx⟩:∃ x,M.funcs[g]?=some x:=⟨_,List.getElem?_eq_getElem hgl⟩
 obtain ⟨b7,o7,cs7,ow7,e1,e2,_,e3,_,_⟩:=hm1.f.ff hx
 have hent:fromP M g=x.entry:=by unfold fromP; rw [hx]; rfl
 rw [←hent] at e3
 have hfr:=entry_in hc hgl
 obtain ⟨a,ha⟩:∃ j:Nat,fromP M g=(j:Int):=⟨(fromP M g).toNat,by omega⟩
 rw [ha] at e3 hfr ⊢
 rw [Int.toNat_natCast]
 have hmin:(if 12 < ((k+1:Nat):Int) then (12:Int) else ((k+1:Nat):Int))=((k+1:Nat):Int):=if_neg (by omega)
 have f1:=not_full (m:=m1) (by omega)
 have x2:Ext m1 (m1.push (.cells [.int .i64 (a:Int)] true)):=(Ext.refl _).push _ (by omega)
 have n2:=push_n m1 (.cells [.int .i64 (a:Int)] true)
 obtain ⟨v,m3,ws,h3,ho,hro,_,x3,n3⟩:=on_all m I M hm (codes_ok hc) (next_in hc) hlc ((k+1:Nat):Int) k (by omega) Nn (m1.push (.cells [.int .i64 (a:Int)] true)) (.slice m1.n 0 1 (some 1) 1) [(a:Int)] a (by omega) (hg.1.trans x2) ⟨m1.n,some 1,true,rfl,Mem.get_push_new _⟩ rfl (by simp) (by simp; omega) (by simp; omega) (by omega) (by rw [n2]; omega)
 obtain ⟨v1,v2,v3,v4⟩:=ho.plain
 have q0:0≤(g:Int)∧(g:Int) < (M.funcs.length:Int):=by omega
 exact ⟨v,m3,by simp only [KK,opE_mkslc,Nat.reduceEqDiff,Nat.reduceAdd,Nat.reduceLeDiff,Nat.reduceLT,Nat.reducePow,Nat.mul_one,AOp.kd,kd_rm,logOk_nil',hP,hr,d1,d2,d3,d4,e1,e2,e3,f1,zer1,min12,hmin,h3,v2],hro.asX ho,⟨hg.1.trans (x2.trans x3),by omega⟩⟩
theorem all_eq {α:Type} [DecidableEq α] (x y:List α) (hxy:x.length=y.length):allI (fun i (z:α)=>decide (y[i]?=some z)) x 0=true↔x=y:=by
 rw [allI_iff]
 constructor
 ·intro h
  apply List.ext_getElem?
  intro i
  cases hx:x[i]? with
  | none=>rw [List.getElem?_eq_none (by have:=List.getElem?_eq_none_iff.1 hx; omega)]
  | some z=>
   have:=of_decide_eq_true (h i z hx)
   rw [Nat.zero_add] at this
   exact this.symm
 ·rintro rfl j z hz
  rw [Nat.zero_add,hz]
  exact decide_eq_true rfl
theorem cmp_lists (W:Nat) (m:Mem) (u v:AV) (x y:List (List Int)) (hu:AS m u x) (hv:AS m v y) (hW:∀ l∈x,l.length≤W) (hW2:W≤1000000) (hxy:x.length=y.length) (hl:x.length≤1000000) (N:Nat) (T:List (Nat×AV)) (L:List (Nat×List AV)) (hN:x.length+W+3≤N) (hk:keepT [0,1,5] [] T=[(0,u),(1,v),(5,.int .i64 0)]) {q:Option (Ex×St)} (hq:codeEv (run A N) (ev A N).2 a52_L1 ⟨27,T,L,m⟩=q):
  ∃ T' L',(x=y∧q=some (.exit 0,⟨27,T',L',m⟩))∨(x≠y∧q=some (.ret,⟨27,T',L',m⟩)∧look T' 4=.bool false):=by
 obtain ⟨u1,u2,u3,u4⟩:=hu.plain
 obtain ⟨v1,v2,v3,v4⟩:=hv.plain
 have lu:=hu.lenR
 have lv:=hv.lenR
 have h:=scan0 (A:=A) a52_L1 a52_B1 a52_L1_step (fun i (_:Unit) s=>∃ T L,s=⟨27,T,L,m⟩∧keepT [0,1,5] [] T=[(0,u),(1,v),(5,.int .i64 (i:Int))]) (fun _ s=>∃ T L,s=⟨27,T,L,m⟩) (fun (_:Unit) s=>∃ T L,s=⟨27,T,L,m⟩∧look T 4=.bool false) 0 (W+3) (allS fun i (z:List Int)=>decide (y[i]?=some z)) x
  (fun N b s hN ⟨T,L,hs,hk⟩=>by
   subst hs
   have h':¬(x.length:Int) < (x.length:Int):=by omega
   unfold a52_B1
   exact ⟨_,by simp only [KK,Nat.reduceEqDiff,Nat.reduceLT,hk,h',lu]; rfl,_,_,rfl⟩)
  (fun N i z b s hN hx ⟨T,L,hs,hk⟩=>by
   subst hs
   have hlt:=(List.getElem?_eq_some_iff.1 hx).1
   have h':(i:Int) < (x.length:Int):=by omega
   obtain ⟨b,o,cs,ow,w,e1,e2,e3,hw⟩:=hu.at hx
   obtain ⟨z',hz'⟩:∃ z',y[i]?=some z':=⟨_,List.getElem?_eq_getElem (by omega)⟩
   obtain ⟨b2,o2,cs2,ow2,w',g1,g2,g3,hw'⟩:=hv.at hz'
   obtain ⟨w1,w2,w3,w4⟩:=hw.plain
   obtain ⟨y1,y2,y3,y4⟩:=hw'.plain
   have a1:=add_i i (by omega)
   have hzW:=hW z (List.mem_of_getElem? hx)
   have hr:=ints_run N m w w' z z' hw hw' (by omega) (by omega)
   unfold allS
   cases hd:decide (z=z')
   ·have hd2:decide (y[i]?=some z)=false:=by
     rw [decide_eq_false_iff_not] at hd ⊢
     rw [hz']; intro e; cases e; exact hd rfl
    rw [if_neg (by dsimp only; rw [hd2]; simp)]
    dsimp only
    rw [hd] at hr
    unfold a52_B1
    exact ⟨_,by simp only [KK,Nat.reduceEqDiff,Nat.reduceLT,AOp.kd,kd_rm,logOk_nil',hk,h',e1,e2,e3,g1,g2,g3,u1,v1,w2,y2,lu,hr]; rfl,_,_,rfl,by simp only [look_set,if_true]⟩
   ·have hd2:decide (y[i]?=some z)=true:=by
     rw [decide_eq_true_iff] at hd ⊢
     rw [hz',hd]
    rw [if_pos (by exact hd2)]
    dsimp only
    rw [hd] at hr
    unfold a52_B1
    exact ⟨_,by simp only [KK,Nat.reduceEqDiff,Nat.reduceLT,AOp.kd,kd_rm,logOk_nil',hk,h',e1,e2,e3,g1,g2,g3,u1,v1,w2,y2,lu,hr,a1]; rfl,_,_,rfl,by simp only [keepT,List.map,look_set,look_cons,in_int,Nat.reduceEqDiff,if_true,if_false,u1,v1]⟩)
  N () ⟨27,T,L,m⟩ (by omega) ⟨T,L,rfl,hk⟩ hq
 have hiff:=all_eq x y hxy
 rw [fold_all] at h
 cases hall:allI (fun i (z:List Int)=>decide (y[i]?=some z)) x 0
 ·rw [hall] at h
  obtain ⟨s',e,T',L',rfl,h2⟩:=h
  exact ⟨T',L',.inr ⟨(fun e=>by rw [hiff.2 e] at hall; cases hall),e,h2⟩⟩
 ·rw [hall] at h
  obtain ⟨s',e,T',L',rfl⟩:=h
  exact ⟨T',L',.inl ⟨hiff.1 hall,e⟩⟩
theorem lists_run (W N:Nat) (m:Mem) (u v:AV) (x y:List (List Int)) (hu:AS m u x) (hv:AS m v y) (hW:∀ l∈x,l.length≤W) (hW2:W≤1000000) (hl:x.length≤1000000) (hN:x.length+W+4≤N):run A N 52 [u,v] m=some (.bool (decide (x=y)),m):=by
 obtain ⟨n,rfl⟩:∃ n,N=n+1:=⟨N - 1,by omega⟩
 obtain ⟨u1,u2,u3,u4⟩:=hu.plain
 obtain ⟨v1,v2,v3,v4⟩:=hv.plain
 have lu:=hu.lenR
 have lv:=hv.lenR
 rw [run_52]
 unfold fnEv a52
 by_cases hxy:x.length=y.length
 ·have hd:decide ((x.length:Int)=(y.length:Int))=true:=decide_eq_true (by omega)
  simp only [KK,Nat.reduceEqDiff,Nat.reduceAdd,Nat.reduceLT,u1,v1,lu,lv,hd]
  generalize hq:codeEv (run A n) (ev A n).2 a52_L1 _=q
  obtain ⟨T',L',⟨h1,rfl⟩ | ⟨h1,rfl,h2⟩⟩:=cmp_lists W m u v x y hu hv hW hW2 hxy hl n _ _ (by omega) (by simp only [keepT,List.map,look_set,look_cons,in_int,Nat.reduceEqDiff,if_true,if_false,u1,v1]) hq
  ·rw [decide_eq_true h1]
   simp only [look_set,loc_bool,Nat.reduceLT,if_true,if_false,Bool.false_eq_true]
  ·rw [decide_eq_false h1]
   simp only [loc_bool,if_false,Bool.false_eq_true,h2]
 ·have hd:decide ((x.length:Int)=(y.length:Int))=false:=decide_eq_false (by omega)
  have hne:decide (x=y)=false:=decide_eq_false (fun e=>hxy (by rw [e]))
  rw [hne]
  simp only [KK,Nat.reduceEqDiff,Nat.reduceAdd,Nat.reduceLT,u1,v1,lu,lv,hd]
theorem ptree_row (M:Img):∀ (k:Nat) (way:List Int) (a:Nat),∀ l∈ptree M k way a,l.length≤way.length+k
 | 0,way,a,l,h=>by
  rw [ptree,List.mem_singleton] at h
  rw [h]; omega
 | k+1,way,a,l,h=>by
  rw [ptree,List.mem_cons] at h
  rcases h with h | h
  ·rw [h]; omega
  ·obtain ⟨n,_,h2⟩:=List.mem_flatMap.1 h
   have:=ptree_row M k (way++[n]) n.toNat l h2
   rw [List.length_append,List.length_singleton] at this
   omega
theorem cc_loop (m:Mem) (at' f n:Int) (wa wb:AV) (ps:List (Int×Int)) (ha:RS prow 2 m wa ps) (hb:RS prow 2 m wb ps) (hl:ps.length≤100000) (C:List AV) (N:Nat) (T:List (Nat×AV)) (L:List (Nat×List AV)) (hN:ps.length+1≤N) (hk:keepT [1,2,3,4,9,10,11] [4] T=[(1,.int .i64 at'),(2,.int .i64 f),(3,.int .i64 n),(4,.loc 4 0),(9,wa),(10,wb),(11,.int .i64 0)]) (hL:lookL L 4=some C) {q:Option (Ex×St)} (hq:codeEv (run A N) (ev A N).2 a11_L1 ⟨91,T,L,m⟩=q):
  ∃ T' L',q=some (.exit 0,⟨91,T',L',m⟩)∧keepT [1,2,3,4] [4] T'=[(1,.int .i64 at'),(2,.int .i64 f),(3,.int .i64 n),(4,.loc 4 0)]∧lookL L' 4=some C:=by
 obtain ⟨v1,v2,v3,v4⟩:=ha.plain
 obtain ⟨w1,w2,w3,w4⟩:=hb.plain
 have la:=ha.lenR
 have lb:=hb.lenR
 have h:=scan0 (A:=A) a11_L1 a11_B1 a11_L1_step (fun x (_:Unit) s=>∃ T L,s=⟨91,T,L,m⟩∧keepT [1,2,3,4,9,10,11] [4] T=[(1,.int .i64 at'),(2,.int .i64 f),(3,.int .i64 n),(4,.loc 4 0),(9,wa),(10,wb),(11,.int .i64 (x:Int))]∧lookL L 4=some C) (fun _ s=>∃ T L,s=⟨91,T,L,m⟩∧keepT [1,2,3,4] [4] T=[(1,.int .i64 at'),(2,.int .i64 f),(3,.int .i64 n),(4,.loc 4 0)]∧lookL L 4=some C) (fun (_:Unit) s=>False) 0 1 nop ps
  (fun N b s hN ⟨T,L,hs,hk,hL⟩=>by
   subst hs
   have h':¬(ps.length:Int) < (ps.length:Int):=by omega
   unfold a11_B1
   exact ⟨_,by simp only [KK,Nat.reduceEqDiff,Nat.reduceLT,hk,hL,h',lb]; rfl,_,_,rfl,by simp only [keepT,List.map,look_set,look_cons,in_int,in_loc,Nat.reduceEqDiff,if_true,if_false,List.contains_cons,List.contains_nil,beq_self_eq_true,Bool.or_false],by simp only [lookL_cons,if_true]⟩)
  (fun N x y b s hN hx ⟨T,L,hs,hk,hL⟩=>by
   subst hs
   have hlt:=(List.getElem?_eq_some_iff.1 hx).1
   have h':(x:Int) < (ps.length:Int):=by omega
   obtain ⟨b2,o2,cs2,ow2,g1,g2,g3⟩:=ha.at hx
   obtain ⟨b3,o3,cs3,ow3,h1,h2,h3⟩:=hb.at hx
   have a1:=add_i x (by omega)
   have hne:eqEv (.agg [(0,0),(1,0)]) (.agg (prow y)) (.agg (prow y))=some true:=by
    simp [eqEv,leavesEq,leafEq,prow]
   unfold nop
   dsimp only
   unfold a11_B1 a11_R2
   exact ⟨_,by simp only [KK,Nat.reduceEqDiff,Nat.reduceLT,AOp.kd,kd_rm,logOk_nil',hk,hL,h',v1,w1,lb,g1,g2,g3,h1,h2,h3,hne,a1]; rfl,_,_,rfl,by simp only [keepT,List.map,look_set,look_cons,in_int,in_loc,Nat.reduceEqDiff,if_true,if_false,List.contains_cons,List.contains_nil,beq_self_eq_true,Bool.or_false,v1,w1],by simp only [lookL_cons,if_true]⟩)
  N () ⟨91,T,L,m⟩ (by omega) ⟨T,L,rfl,hk,hL⟩ hq
 rw [fold_nop] at h
 obtain ⟨s',e,T',L',rfl,h2,h3⟩:=h
 exact ⟨T',L',e,h2,h3⟩
theorem AS.pl2 {m:Mem} {a:AV} {ls:List (List Int)} (h:AS m a ls):(∀ s,AV.locIn s a=true)∧a.isLoc=false:=by
 obtain ⟨ws,h1,_⟩:=h
 obtain ⟨p,q,_,_⟩:=h1.plain
 exact ⟨p,q⟩
theorem calls_law (N:Nat) (hN:40000≤N) (m:Mem) (hlv:LV m) (I:ImV) (M:Img) (hm:IM m I M) (hcs:CapS I.c 4) (hmn:m.n+10000000≤2 ^ depth) (at' f n0:Int):∃ m',run A N 11 [.agg (ic I M),.int .i64 at',.int .i64 f,.int .i64 n0] m=some (.bool true,m'):=by
 obtain ⟨n,rfl⟩:∃ n,N=n+1:=⟨N - 1,by omega⟩
 have hP:=hm.pls
 have la:=hm.a.lenR
 have hli:=lives_run n (by omega) m hlv
 have hlight:=light_run n m I M hm 60 (by omega)
 rw [run_11]
 unfold fnEv a11
 cases hL:lightP M 60
 ·rw [hL] at hlight
  exact ⟨m,by simp only [KK,Nat.reduceEqDiff,Nat.reduceAdd,Nat.reduceLeDiff,Nat.reduceLT,hli,hlight]⟩
 rw [hL] at hlight
 obtain ⟨l1,l2,l3,l4,l5,l6,l7⟩:=light_law (k:=60) hL
 obtain ⟨hck,hrk⟩:=cks m hlv I M hm hcs l1 l2 l3 l6
 have hp:=pick_run n (by omega) m n0 14 (by omega)
 obtain ⟨hp1,hp2⟩:=pick_law n0 (show (1:Int)≤14 by omega)
 obtain ⟨z,hz⟩:∃ z:Nat,pickP n0 14=(z:Int):=⟨(pickP n0 14).toNat,by omega⟩
 rw [hz] at hp hp1 hp2
 have hsb:=sub_i z (by omega)
 have hCp:Cp 11≤1000000:=by decide
 have hT:=hlv.tab.1
 obtain ⟨wa,m1,ra1,oa,la1,ga1⟩:=backsG_run n m I M hm f (wayF M f) (8000+40*M.code.length+10) 12000 (fun k m1 hk h1 hn1=>walkG_run k m1 I M (hm.ext h1) (hT.ext h1) m 10000 8000 hck h1 (by omega) f (by omega) (by omega)) (by omega) (by omega) (by omega)
 have na1:=ga1.2
 obtain ⟨wb,m2,rb1,ob,xb1,nb1,lb1⟩:=rBack_run n m1 I M (hm.ext ga1.1) m 10000 30000 hrk ga1.1 (by omega) f (by omega) (by omega)
 have e2:=ga1.1.trans xb1
 have hra:=OS.rs (f:=prow) (fun _=>rfl) (OS.ext oa xb1)
 have hrb:=OS.rs (f:=prow) (fun _=>rfl) ob
 obtain ⟨a1,a2,a3,a4⟩:=hra.plain
 obtain ⟨b1,b2,b3,b4⟩:=hrb.plain
 have la:=hra.lenR
 have lb:=hrb.lenR
 have hlog:logOk [Acc.eff m m1,Acc.rw (.loc 4 0) 8 false]=true:=by simp [logOk,accFit,sameRead]
 have hde:∀ k:Int,decide (k=k)=true:=fun _=>decide_eq_true rfl
 simp only [KK,Nat.reduceEqDiff,Nat.reduceAdd,Nat.reduceLeDiff,Nat.reduceLT,hli,hlight,hp,hsb]
 unfold a11_R1
 simp only [KK,Nat.reduceEqDiff,Nat.reduceAdd,Nat.reduceLeDiff,Nat.reduceLT,AOp.kd,kd_rm,ra1,rb1,a1,b1,la,lb,hlog]
 generalize hq:codeEv (run A n) (ev A n).2 a11_L1 _=q
 obtain ⟨T2,L2,rfl,k2,l2'⟩:=cc_loop m2 at' f ((z:Int) - 1) wa wb _ hra hrb (by omega) (ic I M) n _ _ (by omega) (by simp only [keepT,List.map,look_set,look_cons,in_int,in_loc,Nat.reduceEqDiff,if_true,if_false,List.contains_cons,List.contains_nil,beq_self_eq_true,Bool.or_false,a1,b1]) (by simp only [lookL_cons,if_true]) hq
 -- the places behind,ahead
 obtain ⟨u1,m3,r3,o3,g3⟩:=Next_run n m2 I M (hm.ext e2) (hT.ext e2) (by omega) (by omega) m (checkI M) 10000 8000 hck e2 (by omega) (fun h=>codes_ok h) (by omega) at'
 have n3:=g3.2
 have e3:=e2.trans g3.1
 obtain ⟨u2,m4,r4,o4,g4⟩:=rNext_run n m3 I M (hm.ext e3) m 10000 30000 hrk e3 (by omega) at' (by omega) (by omega)
 have n4:=g4.2
 have e4:=e3.trans g4.1
 have hln:(nextP M (checkI M) at').length≤2:=by unfold nextP; split; exact next_len _ _; simp
 have i4:=ints_run n m4 u1 u2 _ _ (.inl (o3.ext g4.1)) o4.re (by omega) (by omega)
 obtain ⟨u5,m5,r5,o5,g5⟩:=AheadG_run n m4 I M (hm.ext e4) (hT.ext e4) m 10000 8000 hck e4 (by omega) (by omega) at' (by omega) (by omega)
 have n5:=g5.2
 have e5:=e4.trans g5.1
 obtain ⟨u6,m6,r6,o6,g6⟩:=rAhead_run n m5 I M (hm.ext e5) m 10000 30000 hrk e5 (by omega) at' (by omega) (by omega)
 have n6:=g6.2
 have e6:=e5.trans g6.1
 have hla:(aheadP M at').length≤60:=by
  unfold aheadP
  split
  ·have:=ah_len M 0 at' (List.range M.code.length)
   rw [List.length_range] at this
   omega
  ·simp
 have i6:=ints_run n m6 u5 u6 _ _ (IS.up o5 g6.1).re o6.re (by omega) (by omega)
 -- what is reached,the row
 obtain ⟨u7,m7,r7,o7,g7,hl7⟩:=reachedG_run n m6 I M (hm.ext e6) f (wayF M f) (8000+40*M.code.length+10) 12000 (fun k m1 hk h1 hn1=>walkG_run k m1 I M (hm.ext (e6.trans h1)) (hT.ext (e6.trans h1)) m 10000 8000 hck (e6.trans h1) (by omega) f (by omega) (by omega)) (by omega) (by omega) (by omega)
 have n7:=g7.2
 have e7:=e6.trans g7.1
 obtain ⟨u8,m8,r8,o8,x8,n8⟩:=rReached_run n m7 I M (hm.ext e7) m 10000 30000 hrk e7 (by omega) f (by omega) (by omega)
 have e8:=e7.trans x8
 rw [reach_eq] at o8
 have i8:=ints_run n m8 u7 u8 _ _ (IS.up o7 x8).re o8.re (by rw [len_sort]; omega) (by rw [len_sort]; omega)
 obtain ⟨u9,m9,r9,o9,g9⟩:=rowG_run n m8 I M (hm.ext e8) f (wayF M f) (8000+40*M.code.length+10) 12000 (fun k m1 hk h1 hn1=>walkG_run k m1 I M (hm.ext (e8.trans h1)) (hT.ext (e8.trans h1)) m 10000 8000 hck (e8.trans h1) (by omega) f (by omega) (by omega)) (by omega) (by omega) (by omega)
 have n9:=g9.2
 have e9:=e8.trans g9.1
 obtain ⟨u10,m10,r10,o10,x10,n10⟩:=rRow_run n m9 I M (hm.ext e9) m 10000 30000 hrk e9 (by omega) f (by omega) (by omega)
 have e10:=e9.trans x10
 have hlr:(wayF M f).l.reverse.length≤60:=by rw [List.length_reverse]; omega
 have i10:=ints_run n m10 u9 u10 _ _ (IS.up o9 x10).re o10.re (by omega) (by omega)
 -- the ways
 obtain ⟨u11,m11,r11,o11,g11⟩:=pathsG_run n m10 I M (hm.ext e10) (hT.ext e10) m 10000 8000 hck e10 (by omega) f ((z:Int) - 1) (by omega) (by omega) (by omega)
 have n11:=g11.2
 have e11:=e10.trans g11.1
 obtain ⟨u12,m12,r12,o12,g12⟩:=rPaths_run n m11 I M (hm.ext e11) m 10000 30000 hrk e11 (by omega) f ((z:Int) - 1) (by omega) (by omega) (by omega)
 have hrows:∀ l∈pathsP M f ((z:Int) - 1),l.length≤100:=fun l hl=>by
  unfold pathsP at hl
  split at hl
  ·have:=ptree_row M _ _ _ l hl
   simp only [List.length_cons,List.length_nil] at this
   omega
  ·simp at hl
 have hcnt:(pathsP M f ((z:Int) - 1)).length≤4095:=by
  unfold pathsP
  split
  ·exact Nat.le_trans (ptree_len M _ _ _) (Lp_le _ (by omega))
  ·simp
 have i12:=lists_run 100 n m12 u11 u12 _ _ (o11.ext g12.1) o12 hrows (by omega) (by omega) (by omega)
 have hd:∀ l:List Int,decide (l=l)=true:=fun _=>decide_eq_true rfl
 have hd2:∀ l:List (List Int),decide (l=l)=true:=fun _=>decide_eq_true rfl
 obtain ⟨p3,q3,_,_⟩:=o3.plain
 obtain ⟨p4,q4,_,_⟩:=o4.pl
 obtain ⟨p5,q5,_,_⟩:=o5.pl
 obtain ⟨p6,q6,_,_⟩:=o6.pl
 obtain ⟨p7,q7,_,_⟩:=o7.pl
 obtain ⟨p8,q8,_,_⟩:=o8.pl
 obtain ⟨p9,q9,_,_⟩:=o9.pl
 obtain ⟨p10,q10,_,_⟩:=o10.pl
 obtain ⟨p11,q11⟩:=o11.pl2
 obtain ⟨p12,q12⟩:=o12.pl2
 have hlog2:logOk [Acc.eff m2 m3,Acc.rw (.loc 4 0) 8 false,Acc.eff m4 m5,Acc.rw (.loc 4 0) 8 false,Acc.eff m6 m7,Acc.rw (.loc 4 0) 8 false,Acc.eff m8 m9,Acc.rw (.loc 4 0) 8 false,Acc.eff m10 m11,Acc.rw (.loc 4 0) 8 false]=true:=by simp [logOk,accFit,sameRead]
 exact ⟨m12,by unfold a11_R3; simp only [KK,Nat.reduceEqDiff,Nat.reduceAdd,Nat.reduceLeDiff,Nat.reduceLT,AOp.kd,kd_rm,k2,l2',r3,r4,i4,r5,r6,i6,r7,r8,i8,r9,r10,i10,r11,r12,i12,q3,q4,q5,q6,q7,q8,q9,q10,q11,q12,hlog2]⟩
end AG
