/- What the functions that read images and paths compute, and the laws of that. -/
import Derived.Test.YtkmbepgofajfkaaDoorAgPj
namespace AG
open Go Go.Proofs.YtkmbepgofajfkaaDoor
set_option maxRecDepth 100000
set_option maxHeartbeats 4000000
def wayF (M:Img) (f:Int):DS:=if checkI M=0∧0≤f∧f < (M.funcs.length:Int) then wayS M (fromP M f.toNat).toNat else ⟨List.replicate M.code.length 0,[],[]⟩
theorem entry_in {M:Img} (h:checkI M=0) {f:Nat} (hf:f < M.funcs.length):0≤fromP M f∧fromP M f < (M.code.length:Int):=by
 have hsf:=(tiles_of (check_zero h).2.1).sp f hf
 exact ⟨hsf.1,by omega⟩
theorem walked_run (N:Nat) (m:Mem) (I:ImV) (M:Img) (hm:IM m I M) (m0:Mem) (NC KC:Nat) (hck:CkOk m0 I M NC KC 37 (checkI M)) (he:Ext m0 m) (hlc:M.code.length≤20000) (f:Int) (hmn:m.n+KC+40*M.code.length+60≤2 ^ depth) (hN:NC+8*M.code.length+60≤N):
  ∃ W K va vb m',run A N 62 [.agg (ic I M),.int .i64 f] m=some (.ptr W 0,m')∧WkM m I M W K (m.n+2) m' va vb (wayF M f)∧m'.n≤m.n+KC+40*M.code.length+10∧(wayF M f).c.length=M.code.length∧(wayF M f).l.length≤M.code.length∧(wayF M f).b.length≤2*M.code.length:=by
 obtain ⟨n,rfl⟩:∃ n,N=n+1:=⟨N - 1,by omega⟩
 have hP:=hm.pls
 have hf0:=not_full (m:=m) (by omega)
 have hmk:xmEv .mkmap [] m=some (.map m.n,m.push (.map [] 0)):=by simp only [xmEv,hf0,Bool.false_eq_true,if_false]
 have f1:=not_full (m:=(m.push (.map [] 0))) (by rw [push_n]; omega)
 have x1:Ext m ((m.push (.map [] 0)).push (.cells [I.c,I.f,I.v,.int .i64 M.main,I.i,I.p,.int .i64 M.stack,I.a,.map m.n,.nils,.nils] true)):=((Ext.refl m).push _ (by omega)).push _ (by rw [push_n]; omega)
 have n1:((m.push (.map [] 0)).push (.cells [I.c,I.f,I.v,.int .i64 M.main,I.i,I.p,.int .i64 M.stack,I.a,.map m.n,.nils,.nils] true)).n=m.n+2:=by rw [push_n,push_n]
 have g0:((m.push (.map [] 0)).push (.cells [I.c,I.f,I.v,.int .i64 M.main,I.i,I.p,.int .i64 M.stack,I.a,.map m.n,.nils,.nils] true)).get m.n=some (.map [] 0):=(Mem.get_push_old _ f1 (by rw [push_n]; omega)).trans (Mem.get_push_new _)
 have g1:((m.push (.map [] 0)).push (.cells [I.c,I.f,I.v,.int .i64 M.main,I.i,I.p,.int .i64 M.stack,I.a,.map m.n,.nils,.nils] true)).get (m.n+1)=some (.cells [I.c,I.f,I.v,.int .i64 M.main,I.i,I.p,.int .i64 M.stack,I.a,.map m.n,.nils,.nils] true):=by
  have:=Mem.get_push_new (m:=(m.push (.map [] 0))) (.cells [I.c,I.f,I.v,.int .i64 M.main,I.i,I.p,.int .i64 M.stack,I.a,.map m.n,.nils,.nils] true)
  rw [push_n] at this
  exact this
 generalize hm1:((m.push (.map [] 0)).push (.cells [I.c,I.f,I.v,.int .i64 M.main,I.i,I.p,.int .i64 M.stack,I.a,.map m.n,.nils,.nils] true))=m1 at*
 obtain ⟨m2,hr,hg⟩:=hck n m1 (by omega) (he.trans x1) (by omega)
 have hn2:=hg.2
 have hn2':=hg.1.1
 have x2:=x1.trans hg.1
 have hv2:WkM m I M (m.n+1) m.n (m.n+2) m2 .nils .nils ⟨List.replicate M.code.length 0,[],[]⟩:={
  ext:=x2
  lo:=by omega
  hi:=by omega
  ne:=by omega
  nn:=by omega
  gw:=(hg.1.2 _ (by omega)).trans g1
  gk:=⟨[],0,(hg.1.2 _ (by omega)).trans g0,ColE.init _⟩
  ol:=.inl ⟨rfl,rfl,rfl⟩
  ob:=.inl ⟨rfl,rfl,rfl⟩
  nab:=fun k hk=>by cases hk }
 rw [run_62]
 unfold fnEv a62
 by_cases hc:checkI M=0
 rotate_left
 ·have hw:wayF M f=⟨List.replicate M.code.length 0,[],[]⟩:=by unfold wayF; exact if_neg (fun h=>hc h.1)
  rw [hw]
  have d1:decide (checkI M=0)=false:=decide_eq_false hc
  exact ⟨m.n+1,m.n,.nils,.nils,m2,by simp only [KK,lookL,setL,Nat.reduceEqDiff,Nat.reduceAdd,Nat.reduceLeDiff,Nat.reduceLT,push_n,opE_xm,hmk,f1,push_n,hm1,hr,d1],hv2,by omega,by simp,by simp,by simp⟩
 have d1:decide (checkI M=0)=true:=decide_eq_true hc
 by_cases h0:0≤f
 rotate_left
 ·have hw:wayF M f=⟨List.replicate M.code.length 0,[],[]⟩:=by unfold wayF; exact if_neg (fun h=>h0 h.2.1)
  rw [hw]
  have d2:decide (0≤f)=false:=decide_eq_false h0
  exact ⟨m.n+1,m.n,.nils,.nils,m2,by simp only [KK,lookL,setL,Nat.reduceEqDiff,Nat.reduceAdd,Nat.reduceLeDiff,Nat.reduceLT,push_n,opE_xm,hmk,f1,push_n,hm1,hr,d1,d2],hv2,by omega,by simp,by simp,by simp⟩
 have d2:decide (0≤f)=true:=decide_eq_true h0
 by_cases hl:f < (M.funcs.length:Int)
 rotate_left
 ·have hw:wayF M f=⟨List.replicate M.code.length 0,[],[]⟩:=by unfold wayF; exact if_neg (fun h=>hl h.2.2)
  rw [hw]
  have d3:decide (f < (M.funcs.length:Int))=false:=decide_eq_false hl
  exact ⟨m.n+1,m.n,.nils,.nils,m2,by simp only [KK,lookL,setL,Nat.reduceEqDiff,Nat.reduceAdd,Nat.reduceLeDiff,Nat.reduceLT,push_n,opE_xm,hP,hmk,f1,push_n,hm1,hr,d1,d2,d3],hv2,by omega,by simp,by simp,by simp⟩
 have d3:decide (f < (M.funcs.length:Int))=true:=decide_eq_true hl
 have hw:wayF M f=wayS M (fromP M f.toNat).toNat:=by unfold wayF; exact if_pos ⟨hc,h0,hl⟩
 rw [hw]
 obtain ⟨g,rfl⟩:∃ g:Nat,f=(g:Int):=⟨f.toNat,by omega⟩
 rw [Int.toNat_natCast]
 have hgl:g < M.funcs.length:=by omega
 obtain ⟨x,hx⟩:∃ x,M.funcs[g]?=some x:=⟨_,List.getElem?_eq_getElem hgl⟩
 obtain ⟨b7,o7,cs7,ow7,e1,e2,_,e3,_,_⟩:=(hm.ext x2).f.ff hx
 have hent:fromP M g=x.entry:=by unfold fromP; rw [hx]; rfl
 have hfr:=entry_in hc hgl
 obtain ⟨a,ha⟩:∃ j:Nat,x.entry=(j:Int):=⟨x.entry.toNat,by rw [hent] at hfr; omega⟩
 rw [hent] at hfr ⊢
 rw [ha] at hfr ⊢
 rw [Int.toNat_natCast]
 have hwr:=whites_rep M.code.length
 obtain ⟨m7,va,vb,hr7,hv7,st7,w1,w2,w3,w4,w5⟩:=go1_run m I M hm (codes_ok hc) (next_in hc) (by omega) (m.n+1) m.n (m.n+2) M.code.length n m2 .nils .nils ⟨List.replicate M.code.length 0,[],[]⟩ a (by omega) hv2 (by simp) (by rw [hwr]; exact Nat.le_refl _) (by dsimp only; rw [List.getElem?_replicate,if_pos (by omega)]) (by rw [hwr]; omega) (by rw [hwr]; dsimp only; simp; omega) (by rw [hwr]; dsimp only; simp; omega)
 rw [hwr] at w2 w3 w4 w5
 dsimp only at w2 w3 w4 w5
 rw [List.length_nil,Nat.zero_add] at w3 w4
 rw [List.length_replicate] at w1
 have q0:0≤(g:Int)∧(g:Int) < (M.funcs.length:Int):=⟨h0,hl⟩
 refine ⟨m.n+1,m.n,va,vb,m7,by simp only [KK,lookL,setL,Nat.reduceEqDiff,Nat.reduceAdd,Nat.reduceLeDiff,Nat.reduceLT,push_n,opE_xm,hP,hmk,f1,push_n,hm1,hr,d1,q0,e1,e2,e3,ha,hr7],hv7,?_,w1,?_,?_⟩
 ·omega
 ·unfold wayS; omega
 ·unfold wayS; omega
def rchS (c:List Nat) (_:Nat) (g:Nat) (acc:List Int):Stp (List Int) Unit:=.go (if c[g]?=some 2 then acc++[(g:Int)] else acc)
def rchG (c:List Nat) (gs:List Nat):List Int:=(gs.filter fun (g:Nat)=>decide (c[g]?=some 2)).map fun (g:Nat)=>(g:Int)
theorem fold_rch (c:List Nat):∀ (gs:List Nat) (i:Nat) (acc:List Int),foldS (rchS c) gs i acc=.inl (acc++rchG c gs)
 | [],i,acc=>by simp [foldS,rchG]
 | g::r,i,acc=>by
  simp only [foldS,rchS]
  rw [fold_rch c r (i+1) _]
  by_cases h:c[g]?=some 2
  ·simp [rchG,h]
  ·simp [rchG,h]
theorem IS.up {n0:Nat} {m m':Mem} {v:AV} {l:List Int} (h:IS n0 m v l) (k:Ext m m'):IS n0 m' v l:=OS.ext h k
def reachP (M:Img) (f:Int):List Int:=rchG (wayF M f).c (List.range M.code.length)
theorem rReached_run (N:Nat) (m:Mem) (I:ImV) (M:Img) (hm:IM m I M) (m0:Mem) (NC KC:Nat) (hck:CkOk m0 I M NC KC 37 (checkI M)) (he:Ext m0 m) (hlc:M.code.length≤20000) (f:Int) (hmn:m.n+KC+50*M.code.length+80≤2 ^ depth) (hN:NC+9*M.code.length+70≤N):
  ∃ v m',run A N 21 [.agg (ic I M),.int .i64 f] m=some (v,m')∧IS m.n m' v (reachP M f)∧Ext m m'∧m'.n≤m.n+KC+42*M.code.length+10:=by
 obtain ⟨n,rfl⟩:∃ n,N=n+1:=⟨N - 1,by omega⟩
 have hP:=hm.pls
 obtain ⟨W,K,va,vb,m1,hr,hw,hn1,hcl,hl1,hl2⟩:=walked_run n m I M hm m0 NC KC hck he hlc f (by omega) (by omega)
 have gw:=hw.gw
 obtain ⟨L0,cc,gk,hcol⟩:=hw.gk
 have hlo:=hw.lo
 have hex:=hw.ext
 rw [run_21]
 unfold fnEv a21 reachP
 simp only [KK,Nat.reduceEqDiff,Nat.reduceAdd,Nat.reduceLeDiff,Nat.reduceLT,hr]
 generalize hq:codeEv (run A n) (ev A n).2 a21_L1 _=q
 have h:=scan0 (A:=A) a21_L1 a21_B1 a21_L1_step
  (fun i (acc:List Int) s=>∃ T L m2 v,s=⟨30,T,L,m2⟩∧keepT [2,5,6,7] [2] T=[(2,.loc 2 0),(5,.ptr W 0),(6,v),(7,.int .i64 (i:Int))]∧lookL L 2=some (ic I M)∧IS m1.n m2 v acc∧Ext m1 m2∧m2.n≤m1.n+2*i∧acc.length≤i)
  (fun acc s=>∃ T L m2 v,s=⟨30,T,L,m2⟩∧keepT [6] [] T=[(6,v)]∧IS m1.n m2 v acc∧Ext m1 m2∧m2.n≤m1.n+2*M.code.length)
  (fun (_:Unit) s=>False) 0 1 (rchS (wayF M f).c) (List.range M.code.length)
  (fun N acc s hN ⟨T,L,m2,v,hs,hk,hL,ho,he2,hn2,hal⟩=>by
   subst hs
   rw [List.length_range] at hk hn2
   have h':¬(M.code.length:Int) < (M.code.length:Int):=by omega
   obtain ⟨v1,v2,v3,v4⟩:=ho.pl
   unfold a21_B1
   exact ⟨_,by simp only [KK,Nat.reduceEqDiff,Nat.reduceAdd,Nat.reduceLeDiff,Nat.reduceLT,hk,hL,h',hP]; rfl,_,_,m2,v,rfl,by simp only [keepT,List.map,look_set,look_cons,Nat.reduceEqDiff,if_true,if_false,v1],ho,he2,hn2⟩)
  (fun N i g acc s hN hx ⟨T,L,m2,v,hs,hk,hL,ho,he2,hn2,hal⟩=>by
   subst hs
   have hil:i < M.code.length:=by have:=(List.getElem?_eq_some_iff.1 hx).1; rwa [List.length_range] at this
   have hg:g=i:=by rw [List.getElem?_range hil] at hx; exact (Option.some.inj hx).symm
   subst hg
   obtain ⟨v1,v2,v3,v4⟩:=ho.pl
   have h':(g:Int) < (M.code.length:Int):=by omega
   have a1:=add_i g (by omega)
   have gw2:=(he2.2 _ (Mem.get_lt gw)).trans gw
   have hlk:=col_look ((he2.2 _ (Mem.get_lt gk)).trans gk) g
   obtain ⟨c,hc⟩:∃ c,(wayF M f).c[g]?=some c:=⟨_,List.getElem?_eq_getElem (by omega)⟩
   rw [hcol g c hc] at hlk
   unfold rchS
   dsimp only
   unfold a21_B1
   by_cases h2:c=2
   ·subst h2
    rw [if_pos hc]
    obtain ⟨v',m3,ha,ho3,n3,n4,k3,y1,y2,hf⟩:=push_int ho (g:Int) (by have:=hw.nn; omega) he2.1 (by omega)
    have d2:decide (((2:Nat):Int)=2)=true:=rfl
    exact ⟨_,by simp only [KK,opE_mkslc,Nat.reduceEqDiff,Nat.reduceAdd,Nat.reduceLeDiff,Nat.reduceLT,Nat.reducePow,Nat.mul_one,opE_nilck,nilR_ptr,opE_xm,hk,hL,h',hP,v1,gw2,hlk,d2,a1,hf,zer1,ha,y1]; rfl,_,_,m3,v',rfl,by simp only [keepT,List.map,look_set,look_cons,in_int,in_ptr,in_loc,Nat.reduceEqDiff,if_true,if_false,List.contains_cons,List.contains_nil,beq_self_eq_true,Bool.or_false,y1],by simp only [lookL_cons,if_true],ho3,⟨by have:=he2.1; omega,fun j hj=>(k3 j hj).trans (he2.2 j hj)⟩,by omega,by rw [List.length_append,List.length_singleton]; omega⟩
   ·have hne:¬(wayF M f).c[g]?=some 2:=fun e=>h2 (by rw [hc] at e; exact Option.some.inj e)
    rw [if_neg hne]
    have d2:decide ((c:Int)=2)=false:=decide_eq_false (by omega)
    exact ⟨_,by simp only [KK,opE_mkslc,Nat.reduceEqDiff,Nat.reduceAdd,Nat.reduceLeDiff,Nat.reduceLT,Nat.reducePow,Nat.mul_one,opE_nilck,nilR_ptr,opE_xm,hk,hL,h',hP,v1,gw2,hlk,d2,a1]; rfl,_,_,m2,v,rfl,by simp only [keepT,List.map,look_set,look_cons,in_int,in_ptr,in_loc,Nat.reduceEqDiff,if_true,if_false,List.contains_cons,List.contains_nil,beq_self_eq_true,Bool.or_false,v1],by simp only [lookL_cons,if_true],ho,he2,by omega,by omega⟩)
  n [] _ (by rw [List.length_range]; omega) ⟨_,_,m1,.nils,rfl,by simp only [keepT,List.map,look_set,look_cons,in_int,in_ptr,in_nils,in_loc,Nat.reduceEqDiff,if_true,if_false,List.contains_cons,List.contains_nil,beq_self_eq_true,Bool.or_false]; rfl,by simp only [lookL_cons,if_true],IS.nil _ _,Ext.refl _,by omega,by simp⟩ hq
 rw [fold_rch,List.nil_append] at h
 obtain ⟨s',e,T',L',m2,v,rfl,hk',ho,he2,hn2⟩:=h
 subst e
 obtain ⟨v1,v2,v3,v4⟩:=ho.pl
 exact ⟨v,m2,by simp only [look_set,look_nil,look_cons,Nat.reduceEqDiff,Nat.reduceLT,if_true,if_false,Bool.false_eq_true,hk',v2],OS.low ho hex.1,hex.trans he2,by omega⟩
def revS (_:Nat) (x:Int) (acc:List Int):Stp (List Int) Unit:=.go (acc++[x])
theorem fold_rev:∀ (l:List Int) (i:Nat) (acc:List Int),foldS revS l i acc=.inl (acc++l)
 | [],i,acc=>by simp [foldS]
 | x::r,i,acc=>by
  simp only [foldS,revS]
  rw [fold_rev r (i+1) _]
  simp
theorem rRow_run (N:Nat) (m:Mem) (I:ImV) (M:Img) (hm:IM m I M) (m0:Mem) (NC KC:Nat) (hck:CkOk m0 I M NC KC 37 (checkI M)) (he:Ext m0 m) (hlc:M.code.length≤20000) (f:Int) (hmn:m.n+KC+50*M.code.length+80≤2 ^ depth) (hN:NC+9*M.code.length+70≤N):
  ∃ v m',run A N 51 [.agg (ic I M),.int .i64 f] m=some (v,m')∧IS m.n m' v (wayF M f).l.reverse∧Ext m m'∧m'.n≤m.n+KC+42*M.code.length+10:=by
 obtain ⟨n,rfl⟩:∃ n,N=n+1:=⟨N - 1,by omega⟩
 have hP:=hm.pls
 have la:=hm.a.lenR
 obtain ⟨W,K,va,vb,m1,hr,hw,hn1,hcl,hl1,hl2⟩:=walked_run n m I M hm m0 NC KC hck he hlc f (by omega) (by omega)
 have gw:=hw.gw
 have hlo:=hw.lo
 have hex:=hw.ext
 have hra:RS (fun z=>[AV.int .i64 z]) 1 m1 va (wayF M f).l:=(show IS (m.n+2) m1 va (wayF M f).l from hw.ol).rs
 generalize (wayF M f).l=l at*
 obtain ⟨a1,a2,a3,a4⟩:=hra.plain
 have la:=hra.lenR
 have hsb:=sub_i l.length (by omega)
 rw [run_51]
 unfold fnEv a51
 simp only [KK,Nat.reduceEqDiff,Nat.reduceAdd,Nat.reduceLeDiff,Nat.reduceLT,opE_nilck,nilR_ptr,hr,gw,a1,la,hsb]
 generalize hq:codeEv (run A n) (ev A n).2 a51_L1 _=q
 have h:=scan0 (A:=A) a51_L1 a51_B1 a51_L1_step
  (fun i (acc:List Int) s=>∃ T m2 v,s=⟨29,T,[],m2⟩∧keepT [5,6,7] [] T=[(5,va),(6,v),(7,.int .i64 ((l.length:Int) - 1 - (i:Int)))]∧IS m1.n m2 v acc∧Ext m1 m2∧m2.n≤m1.n+2*i∧acc.length≤i)
  (fun acc s=>∃ T m2 v,s=⟨29,T,[],m2⟩∧keepT [6] [] T=[(6,v)]∧IS m1.n m2 v acc∧Ext m1 m2∧m2.n≤m1.n+2*l.length)
  (fun (_:Unit) s=>False) 0 1 revS l.reverse
  (fun N acc s hN ⟨T,m2,v,hs,hk,ho,he2,hn2,hal⟩=>by
   subst hs
   rw [List.length_reverse] at hk hn2
   have d0:decide ((0:Int)≤(l.length:Int) - 1 - (l.length:Int))=false:=decide_eq_false (by omega)
   obtain ⟨v1,v2,v3,v4⟩:=ho.pl
   unfold a51_B1
   exact ⟨_,by simp only [KK,Nat.reduceEqDiff,Nat.reduceLT,hk,d0]; rfl,_,m2,v,rfl,by simp only [keepT,List.map,look_set,look_cons,Nat.reduceEqDiff,if_true,if_false,v1],ho,he2,hn2⟩)
  (fun N i x acc s hN hx ⟨T,m2,v,hs,hk,ho,he2,hn2,hal⟩=>by
   subst hs
   have hil:i < l.length:=by have:=(List.getElem?_eq_some_iff.1 hx).1; rwa [List.length_reverse] at this
   rw [List.getElem?_reverse hil] at hx
   obtain ⟨v1,v2,v3,v4⟩:=ho.pl
   have hi0:(l.length:Int) - 1 - (i:Int)=((l.length - 1 - i:Nat):Int):=by omega
   rw [hi0] at hk
   have d0:decide ((0:Int)≤((l.length - 1 - i:Nat):Int))=true:=decide_eq_true (by omega)
   have hs1:=sub_i (l.length - 1 - i) (by omega)
   have hi1:((l.length - 1 - i:Nat):Int) - 1=(l.length:Int) - 1 - ((i+1:Nat):Int):=by omega
   rw [hi1] at hs1
   obtain ⟨b2,o2,cs2,ow2,g1,g2,g3⟩:=(hra.ext he2).i1 hx
   obtain ⟨v',m3,ha,ho3,n3,n4,k3,y1,y2,hf⟩:=push_int ho x (by have:=hw.nn; omega) he2.1 (by omega)
   unfold revS
   dsimp only
   unfold a51_B1
   exact ⟨_,by simp only [KK,opE_mkslc,Nat.reduceEqDiff,Nat.reduceAdd,Nat.reduceLeDiff,Nat.reduceLT,Nat.reducePow,Nat.mul_one,hk,d0,a1,v1,g1,g2,g3,hf,zer1,ha,y1,hs1]; rfl,_,m3,v',rfl,by simp only [keepT,List.map,look_set,look_cons,in_int,Nat.reduceEqDiff,if_true,if_false,a1,y1],ho3,⟨by have:=he2.1; omega,fun j hj=>(k3 j hj).trans (he2.2 j hj)⟩,by omega,by rw [List.length_append,List.length_singleton]; omega⟩)
  n [] _ (by rw [List.length_reverse]; omega) ⟨_,m1,.nils,rfl,by simp only [keepT,List.map,look_set,look_cons,in_int,in_nils,Nat.reduceEqDiff,if_true,if_false,a1]; simp,IS.nil _ _,Ext.refl _,by omega,by simp⟩ hq
 rw [fold_rev,List.nil_append] at h
 obtain ⟨s',e,T',m2,v,rfl,hk',ho,he2,hn2⟩:=h
 subst e
 obtain ⟨v1,v2,v3,v4⟩:=ho.pl
 exact ⟨v,m2,by simp only [look_set,look_nil,look_cons,Nat.reduceEqDiff,Nat.reduceLT,if_true,if_false,Bool.false_eq_true,hk',v2],OS.low ho hex.1,hex.trans he2,by omega⟩
theorem rNext_run (N:Nat) (m:Mem) (I:ImV) (M:Img) (hm:IM m I M) (m0:Mem) (NC KC:Nat) (hck:CkOk m0 I M NC KC 37 (checkI M)) (he:Ext m0 m) (hlc:M.code.length≤20000) (at':Int) (hmn:m.n+KC+30≤2 ^ depth) (hN:NC+15≤N):
  ∃ v m',run A N 24 [.agg (ic I M),.int .i64 at'] m=some (v,m')∧IS m.n m' v (nextP M (checkI M) at')∧Gr m m' (KC+8):=by
 obtain ⟨n,rfl⟩:∃ n,N=n+1:=⟨N - 1,by omega⟩
 have hP:=hm.pls
 obtain ⟨m1,hr,hg⟩:=hck n m (by omega) he (by omega)
 have hgn:=hg.2
 have hm1:=hm.ext hg.1
 rw [run_24]
 unfold fnEv a24
 by_cases hc:checkI M=0
 rotate_left
 ·have hw:nextP M (checkI M) at'=[]:=by unfold nextP; exact if_neg (fun h=>hc h.1)
  rw [hw]
  have d1:decide (checkI M=0)=false:=decide_eq_false hc
  exact ⟨.nils,m1,by simp only [KK,Nat.reduceEqDiff,Nat.reduceAdd,Nat.reduceLeDiff,Nat.reduceLT,hr,d1],IS.nil _ _,hg.le (by omega)⟩
 have d1:decide (checkI M=0)=true:=decide_eq_true hc
 by_cases h0:at' < 0
 ·have hw:nextP M (checkI M) at'=[]:=by unfold nextP; exact if_neg (fun h=>by omega)
  rw [hw]
  have d2:decide (at' < 0)=true:=decide_eq_true h0
  exact ⟨.nils,m1,by simp only [KK,Nat.reduceEqDiff,Nat.reduceAdd,Nat.reduceLeDiff,Nat.reduceLT,hr,d1,d2],IS.nil _ _,hg.le (by omega)⟩
 have d2:decide (at' < 0)=false:=decide_eq_false h0
 by_cases hl:(M.code.length:Int)≤at'
 ·have hw:nextP M (checkI M) at'=[]:=by unfold nextP; exact if_neg (fun h=>by omega)
  rw [hw]
  have d3:decide ((M.code.length:Int)≤at')=true:=decide_eq_true hl
  exact ⟨.nils,m1,by simp only [KK,Nat.reduceEqDiff,Nat.reduceAdd,Nat.reduceLeDiff,Nat.reduceLT,hP,hr,d1,d2,d3],IS.nil _ _,hg.le (by omega)⟩
 have d3:decide ((M.code.length:Int)≤at')=false:=decide_eq_false hl
 obtain ⟨k,rfl⟩:∃ k:Nat,at'=(k:Int):=⟨at'.toNat,by omega⟩
 have hw:nextP M (checkI M) (k:Int)=nextAt M k:=by unfold nextP; rw [if_pos ⟨hc,by omega,by omega⟩,Int.toNat_natCast]
 rw [hw]
 unfold nextAt
 obtain ⟨x,hx⟩:∃ x,M.code[k]?=some x:=⟨_,List.getElem?_eq_getElem (by omega)⟩
 rw [hx]
 dsimp only
 obtain ⟨v,m2,hs,ho,hg2⟩:=steps_run n (by omega) m1 I M hm1 k x hx (codes_ok hc k x hx) (by omega) (by omega)
 obtain ⟨v1,v2,v3,v4⟩:=ho.pl
 exact ⟨v,m2,by simp only [KK,Nat.reduceEqDiff,Nat.reduceAdd,Nat.reduceLeDiff,Nat.reduceLT,hP,hr,d1,d2,d3,hs,v2],OS.low ho hg.1.1,hg.trans hg2⟩
def gtP (p q:Int×Int):Bool:=decide (q.1 < p.1)||(decide (p.1=q.1)&&decide (q.2 < p.2))
def bubP:Nat→List (Int×Int)→List (Int×Int)
 | 0,L=>L
 | k+1,L=>match L[k]?,L[k+1]? with
  | some p,some q=>if gtP p q=true then bubP k ((L.set k q).set (k+1) p) else L
  | _,_=>L
theorem bubP_len:∀ (k:Nat) (L:List (Int×Int)),(bubP k L).length=L.length
 | 0,_=>rfl
 | k+1,L=>by
  unfold bubP
  split
  ·split
   ·rw [bubP_len k]; simp
   ·rfl
  ·rfl
theorem prow_set:∀ (L:List (Int×Int)) (k:Nat) (p:Int×Int),k < L.length→List.take (0+k*2) (L.flatMap prow)++[AV.int .i64 p.1,.int .i64 p.2]++List.drop (0+k*2+2) (L.flatMap prow)=(L.set k p).flatMap prow
 | [],k,p,h=>by simp at h
 | x::r,0,p,h=>by simp [prow]
 | x::r,k+1,p,h=>by
  have ih:=prow_set r k p (by simpa using h)
  rw [Nat.zero_add] at ih ⊢
  rw [List.flatMap_cons,List.set_cons_succ,List.flatMap_cons,←ih]
  have e:(k+1)*2=k*2+1+1:=by omega
  rw [e]
  simp [prow]
theorem prow_len (L:List (Int×Int)):(L.flatMap prow).length=L.length*2:=by
 induction L with
 | nil=>rfl
 | cons x r ih=>rw [List.flatMap_cons,List.length_append,ih,List.length_cons,prow]; simp; omega
theorem back_in (b n i:Nat) (hn:n≤100000):∀ (k:Nat) (N:Nat) (m:Mem) (L:List (Int×Int)) (T:List (Nat×AV)),k < n→L.length=n→k+1≤N→m.n≤2 ^ depth→m.get b=some (.cells (L.flatMap prow) true)→keepT [5,6,7] [] T=[(5,.slice b 0 n none 2),(6,.int .i64 (i:Int)),(7,.int .i64 (k:Int))]→
  ∃ T' m',codeEv (run A N) (ev A N).2 a49_L1 ⟨84,T,[],m⟩=some (.exit 2,⟨84,T',[],m'⟩)∧keepT [5,6] [] T'=[(5,.slice b 0 n none 2),(6,.int .i64 (i:Int))]∧m'.get b=some (.cells ((bubP k L).flatMap prow) true)∧m'.n=m.n∧∀ j,j≠b→m'.get j=m.get j
 | 0,N,m,L,T,hk,hL,hN,hm,gb,hT=>by
  have d0:decide ((0:Int) < ((0:Nat):Int))=false:=by decide
  exact ⟨_,m,by rw [a49_L1_step]; unfold a49_B1; simp only [KK,Nat.reduceEqDiff,Nat.reduceLT,AOp.kd,logOk_nil',hT,d0]; rfl,by simp only [keepT,List.map,look_set,look_cons,in_int,in_slice,Nat.reduceEqDiff,if_true,if_false],gb,rfl,fun _ _=>rfl⟩
 | k+1,N,m,L,T,hk,hL,hN,hm,gb,hT=>by
  obtain ⟨N',rfl⟩:∃ N',N=N'+1:=⟨N - 1,by omega⟩
  obtain ⟨p,hp⟩:∃ p,L[k]?=some p:=⟨_,List.getElem?_eq_getElem (by omega)⟩
  obtain ⟨q,hq⟩:∃ q,L[k+1]?=some q:=⟨_,List.getElem?_eq_getElem (by omega)⟩
  have cp:=flat_cells prow 2 (fun _=>rfl) hp
  have cq:=flat_cells prow 2 (fun _=>rfl) hq
  have cp0:=cells_sub cp (k:=0) rfl
  have cp1:=cells_sub cp (k:=1) rfl
  have cq0:=cells_sub cq (k:=0) rfl
  have cq1:=cells_sub cq (k:=1) rfl
  rw [prow] at cp cq
  have d0:decide ((0:Int) < ((k+1:Nat):Int))=true:=decide_eq_true (by omega)
  have hs1:=sub_i (k+1) (by omega)
  have hk1:((k+1:Nat):Int) - 1=(k:Int):=by omega
  rw [hk1] at hs1
  have w1:(0:Int)≤(k:Int)∧(k:Int) < (n:Int):=by omega
  have w2:(0:Int)≤((k+1:Nat):Int)∧((k+1:Nat):Int) < (n:Int):=by omega
  have w3:((0:Int) < ((2:Nat):Int))=True:=by simp
  have w4:((1:Int) < ((2:Nat):Int))=True:=by simp
  rw [bubP,hp,hq]
  dsimp only
  by_cases hg:gtP p q=true
  rotate_left
  ·rw [if_neg hg]
   have hg':gtP p q=false:=by simpa using hg
   unfold gtP at hg'
   rw [Bool.or_eq_false_iff] at hg'
   obtain ⟨d1,h2⟩:=hg'
   cases d2:decide (p.1=q.1)
   ·exact ⟨_,m,by rw [a49_L1_step]; unfold a49_B1; simp only [KK,Nat.reduceEqDiff,Int.reduceLE,Nat.reduceLT,Int.toNat_natCast,Nat.mul_one,opE_iaddrA,iaR_ptr,AOp.kd,kd_rm,logOk_nil',hT,d0,gb,hs1,w1,w2,w3,cp0,cq0,d1,d2]; rfl,by simp only [keepT,List.map,look_set,look_cons,in_int,in_slice,Nat.reduceEqDiff,if_true,if_false],gb,rfl,fun _ _=>rfl⟩
   ·rw [d2,Bool.true_and] at h2
    exact ⟨_,m,by rw [a49_L1_step]; unfold a49_B1; simp only [KK,Nat.reduceEqDiff,Int.reduceLE,Nat.reduceLT,Int.reduceToNat,Int.toNat_natCast,Nat.mul_one,opE_iaddrA,iaR_ptr,AOp.kd,kd_rm,logOk_nil',hT,d0,gb,hs1,w1,w2,w3,w4,cp0,cq0,cp1,cq1,d1,d2,h2]; rfl,by simp only [keepT,List.map,look_set,look_cons,in_int,in_slice,Nat.reduceEqDiff,if_true,if_false],gb,rfl,fun _ _=>rfl⟩
  ·rw [if_pos hg]
   have hlt:=Mem.get_lt gb
   have g1:=Mem.get_set_same (m:=m) (.cells ((L.set k q).flatMap prow) true) hlt
   have g2:=Mem.get_set_same (m:=m.set b (.cells ((L.set k q).flatMap prow) true)) (.cells (((L.set k q).set (k+1) p).flatMap prow) true) (by rw [set_n]; exact hlt)
   have hst1:=prow_set L k q (by omega)
   have hst2:=prow_set (L.set k q) (k+1) p (by rw [List.length_set]; omega)
   have hl1:0+k*2+2≤(L.flatMap prow).length:=by rw [prow_len]; omega
   have hl2:0+(k+1)*2+2≤((L.set k q).flatMap prow).length:=by rw [prow_len,List.length_set]; omega
   have step:∃ T1,codeEv (run A (N'+1)) (ev A (N'+1)).2 a49_B1 ⟨84,T,[],m⟩=some (.norm,⟨84,T1,[],(m.set b (.cells ((L.set k q).flatMap prow) true)).set b (.cells (((L.set k q).set (k+1) p).flatMap prow) true)⟩)∧keepT [5,6,7] [] T1=[(5,.slice b 0 n none 2),(6,.int .i64 (i:Int)),(7,.int .i64 (k:Int))]:=by
    unfold gtP at hg
    cases d1:decide (q.1 < p.1)
    ·rw [d1,Bool.false_or,Bool.and_eq_true] at hg
     obtain ⟨d2,d3⟩:=hg
     exact ⟨_,by unfold a49_B1; simp only [KK,Nat.reduceEqDiff,Int.reduceLE,Nat.reduceAdd,Nat.reduceLT,Int.reduceToNat,Int.toNat_natCast,Nat.mul_one,opE_iaddrA,iaR_ptr,AOp.kd,kd_rm,kd_sm,logOk_nil',hT,d0,gb,hs1,w1,w2,w3,w4,cp0,cq0,cp1,cq1,cp,cq,d1,d2,d3,hl1,hst1,g1,hl2,hst2]; rfl,by simp only [keepT,List.map,look_set,look_cons,in_int,in_slice,Nat.reduceEqDiff,if_true,if_false]⟩
    ·exact ⟨_,by unfold a49_B1; simp only [KK,Nat.reduceEqDiff,Int.reduceLE,Nat.reduceAdd,Nat.reduceLT,Int.toNat_natCast,Nat.mul_one,opE_iaddrA,iaR_ptr,AOp.kd,kd_rm,kd_sm,logOk_nil',hT,d0,gb,hs1,w1,w2,w3,cp0,cq0,cp,cq,d1,hl1,hst1,g1,hl2,hst2]; rfl,by simp only [keepT,List.map,look_set,look_cons,in_int,in_slice,Nat.reduceEqDiff,if_true,if_false]⟩
   obtain ⟨T1,c1,k1⟩:=step
   obtain ⟨T',m',c2,k2,gb',hn',hkeep⟩:=back_in b n i hn k N' _ ((L.set k q).set (k+1) p) T1 (by omega) (by rw [List.length_set,List.length_set]; exact hL) (by omega) (by rw [set_n,set_n]; exact hm) g2 k1
   refine ⟨T',m',?_,k2,gb',hn'.trans (by rw [set_n,set_n]),fun j hj=>(hkeep j hj).trans ?_⟩
   ·rw [a49_L1_step,c1]
    dsimp only
    rw [again_of]
    exact c2
   ·rw [Mem.get_set_ne _ (by rw [set_n]; exact hm) (by rw [set_n]; exact hlt) (fun e=>hj e.symm),Mem.get_set_ne _ hm hlt (fun e=>hj e.symm)]
theorem gt_lex (p q:Int×Int):gtP p q=!lexle p q:=by
 unfold gtP lexle
 by_cases h1:q.1 < p.1
 ·have h2:¬p.1 < q.1:=by omega
  have h3:¬p.1=q.1:=by omega
  simp [h1,h2,h3]
 ·by_cases h3:p.1=q.1
  ·by_cases h4:q.2 < p.2
   ·have h5:¬p.2≤q.2:=by omega
    simp [h3,h4,h5]
   ·have h5:p.2≤q.2:=by omega
    simp [h3,h4,h5]
  ·have h2:p.1 < q.1:=by omega
   simp [h1,h2,h3]
theorem lex_trans (a b c:Int×Int) (h:lexle a b=true) (k:lexle b c=true):lexle a c=true:=by
 unfold lexle at*
 simp only [Bool.or_eq_true,decide_eq_true_eq,Bool.and_eq_true,beq_iff_eq] at*
 omega
theorem lex_total (a b:Int×Int):(lexle a b||lexle b a)=true:=by
 unfold lexle
 simp only [Bool.or_eq_true,decide_eq_true_eq,Bool.and_eq_true,beq_iff_eq]
 omega
theorem lex_anti (a b:Int×Int) (h:lexle a b=true) (k:lexle b a=true):a=b:=by
 obtain ⟨a1,a2⟩:=a
 obtain ⟨b1,b2⟩:=b
 unfold lexle at*
 simp only [Bool.or_eq_true,decide_eq_true_eq,Bool.and_eq_true,beq_iff_eq] at*
 congr 1 <;> omega
abbrev SortedP (l:List (Int×Int)):Prop:=l.Pairwise fun a b=>lexle a b=true
theorem bub_spec:∀ (k:Nat) (A:List (Int×Int)) (x:Int×Int) (R:List (Int×Int)),A.length=k→SortedP A→∃ B,bubP k (A++x::R)=B++R∧B.length=k+1∧SortedP B∧B.Perm (x::A)
 | 0,A,x,R,hl,hs=>by
  have:A=[]:=List.length_eq_zero_iff.1 hl
  subst this
  exact ⟨[x],rfl,rfl,List.pairwise_singleton ..,List.Perm.refl _⟩
 | k+1,A,x,R,hl,hs=>by
  obtain ⟨A1,y,rfl⟩:∃ A1 y,A=A1++[y]:=by
   have hne:A≠[]:=fun e=>by subst e; simp at hl
   exact ⟨A.dropLast,A.getLast hne,(List.dropLast_concat_getLast hne).symm⟩
  have hl1:A1.length=k:=by rw [List.length_append,List.length_singleton] at hl; omega
  have e1:(A1++[y]++x::R)[k]?=some y:=by
   rw [List.append_assoc,List.getElem?_append_right (by omega),hl1,Nat.sub_self]; rfl
  have e2:(A1++[y]++x::R)[k+1]?=some x:=by
   rw [List.append_assoc,List.getElem?_append_right (by omega),hl1,Nat.add_sub_cancel_left]; rfl
  obtain ⟨s1,s2,s3⟩:=List.pairwise_append.1 hs
  rw [bubP,e1,e2]
  dsimp only
  by_cases hg:gtP y x=true
  ·rw [if_pos hg]
   have e3:((A1++[y]++x::R).set k x).set (k+1) y=A1++x::(y::R):=by
    rw [List.append_assoc,List.set_append_right _ _ (by omega),List.set_append_right _ _ (by omega),hl1,Nat.sub_self,Nat.add_sub_cancel_left]
    rfl
   rw [e3]
   obtain ⟨B,b1,b2,b3,b4⟩:=bub_spec k A1 x (y::R) hl1 s1
   have hxy:lexle x y=true:=by
    have h1:=lex_total x y
    rw [gt_lex] at hg
    cases hxy:lexle x y
    ·rw [hxy,Bool.false_or] at h1
     rw [h1] at hg; simp at hg
    ·rfl
   refine ⟨B++[y],by rw [b1,List.append_assoc]; rfl,by rw [List.length_append,b2]; rfl,List.pairwise_append.2 ⟨b3,List.pairwise_singleton ..,fun a ha b hb=>?_⟩,?_⟩
   ·rw [List.mem_singleton.1 hb]
    rcases List.mem_cons.1 (b4.mem_iff.1 ha) with rfl | h
    ·exact hxy
    ·exact s3 a h y (List.mem_singleton.2 rfl)
   ·exact (b4.append_right [y])
  ·rw [if_neg hg]
   have hyx:lexle y x=true:=by
    rw [gt_lex] at hg
    simpa using hg
   refine ⟨A1++[y]++[x],by simp,by simp [hl1],List.pairwise_append.2 ⟨hs,List.pairwise_singleton ..,fun a ha b hb=>?_⟩,?_⟩
   ·rw [List.mem_singleton.1 hb]
    rcases List.mem_append.1 ha with h | h
    ·exact lex_trans _ _ _ (s3 a h y (List.mem_singleton.2 rfl)) hyx
    ·rw [List.mem_singleton.1 h]; exact hyx
   ·exact List.perm_append_singleton _ _
def isrS (_:Nat) (i:Nat) (L:List (Int×Int)):Stp (List (Int×Int)) Unit:=.go (bubP i L)
def isortP (L:List (Int×Int)):List (Int×Int):=(List.range L.length).foldl (fun L i=>bubP i L) L
theorem fold_isr:∀ (is:List Nat) (i:Nat) (L:List (Int×Int)),foldS isrS is i L=.inl (is.foldl (fun L i=>bubP i L) L)
 | [],_,_=>rfl
 | x::r,i,L=>by
  simp only [foldS,isrS,List.foldl_cons]
  exact fold_isr r (i+1) _
theorem isort_inv (L:List (Int×Int)):∀ i,i≤L.length→∃ P R,(List.range i).foldl (fun L i=>bubP i L) L=P++R∧P.length=i∧SortedP P∧(P++R).Perm L
 | 0,_=>⟨[],L,rfl,rfl,List.Pairwise.nil,List.Perm.refl _⟩
 | i+1,hi=>by
  obtain ⟨P,R,h1,h2,h3,h4⟩:=isort_inv L i (by omega)
  rw [List.range_succ,List.foldl_append,h1]
  simp only [List.foldl_cons,List.foldl_nil]
  cases R with
  | nil=>have:=h4.length_eq; simp at this; omega
  | cons x R=>
   obtain ⟨B,b1,b2,b3,b4⟩:=bub_spec i P x R h2 h3
   refine ⟨B,R,b1,b2,b3,?_⟩
   refine ((b4.append_right R).trans ?_).trans h4
   exact (List.perm_middle (a:=x) (l₁:=P) (l₂:=R)).symm
theorem isort_eq (L:List (Int×Int)):isortP L=sortP L:=by
 obtain ⟨P,R,h1,h2,h3,h4⟩:=isort_inv L L.length (Nat.le_refl _)
 have hR:R=[]:=by
  have:=h4.length_eq
  rw [List.length_append] at this
  exact List.length_eq_zero_iff.1 (by omega)
 subst hR
 rw [List.append_nil] at h1 h4
 unfold isortP sortP
 rw [h1]
 refine List.Perm.eq_of_pairwise (le:=fun a b=>lexle a b=true) (fun a b _ _ h k=>lex_anti a b h k) h3 (List.pairwise_mergeSort (fun a b c=>lex_trans a b c) lex_total L) (h4.trans (List.mergeSort_perm L lexle).symm)
theorem back_inq (b n i:Nat) (hn:n≤100000) (k:Nat) (N:Nat) (m:Mem) (L:List (Int×Int)) (T:List (Nat×AV)) (hk:k < n) (hL:L.length=n) (hN:k+1≤N) (hm:m.n≤2 ^ depth) (hg:m.get b=some (.cells (L.flatMap prow) true)) (hT:keepT [5,6,7] [] T=[(5,.slice b 0 n none 2),(6,.int .i64 (i:Int)),(7,.int .i64 (k:Int))]) {q:Option (Ex×St)} (hq:codeEv (run A N) (ev A N).2 a49_L1 ⟨84,T,[],m⟩=q):
  ∃ T' m',q=some (.exit 2,⟨84,T',[],m'⟩)∧keepT [5,6] [] T'=[(5,.slice b 0 n none 2),(6,.int .i64 (i:Int))]∧m'.get b=some (.cells ((bubP k L).flatMap prow) true)∧m'.n=m.n∧∀ j,j≠b→m'.get j=m.get j:=by
 obtain ⟨T',m',c,h⟩:=back_in b n i hn k N m L T hk hL hN hm hg hT
 exact ⟨T',m',hq.symm.trans c,h⟩
theorem rBack_run (N:Nat) (m:Mem) (I:ImV) (M:Img) (hm:IM m I M) (m0:Mem) (NC KC:Nat) (hck:CkOk m0 I M NC KC 37 (checkI M)) (he:Ext m0 m) (hlc:M.code.length≤20000) (f:Int) (hmn:m.n+KC+50*M.code.length+80≤2 ^ depth) (hN:NC+13*M.code.length+70≤N):
  ∃ v m',run A N 49 [.agg (ic I M),.int .i64 f] m=some (v,m')∧OS 2 m.n m' v ((sortP (wayF M f).b).flatMap prow) (sortP (wayF M f).b).length∧Ext m m'∧m'.n≤m.n+KC+40*M.code.length+10∧(sortP (wayF M f).b).length≤2*M.code.length:=by
 obtain ⟨n,rfl⟩:∃ n,N=n+1:=⟨N - 1,by omega⟩
 have hP:=hm.pls
 obtain ⟨W,K,va,vb,m1,hr,hw,hn1,hcl,hl1,hl2⟩:=walked_run n m I M hm m0 NC KC hck he hlc f (by omega) (by omega)
 have gw:=hw.gw
 have hlo:=hw.lo
 have hex:=hw.ext
 have hnn:=hw.nn
 have hob:=hw.ob
 rw [run_49]
 unfold fnEv a49
 generalize (wayF M f).b=L at*
 rcases hob with ⟨rfl,h2,h3⟩ | ⟨b,h0,rfl,h1,h2⟩
 ·have:L=[]:=List.length_eq_zero_iff.1 h3
  subst this
  have d0:¬(0:Int) < (0:Int):=by omega
  refine ⟨.nils,m1,?_,.inl ⟨rfl,by unfold sortP; simp,by unfold sortP; simp⟩,hex,by omega,by unfold sortP; simp⟩
  simp only [KK,Nat.reduceEqDiff,Nat.reduceAdd,Nat.reduceLeDiff,Nat.reduceLT,opE_nilck,nilR_ptr,hr,gw,a49_L2_step]
  unfold a49_B2
  simp only [KK,Nat.reduceEqDiff,Nat.reduceLT,d0]
 ·have hle:m1.n≤2 ^ depth:=by omega
  simp only [KK,Nat.reduceEqDiff,Nat.reduceAdd,Nat.reduceLeDiff,Nat.reduceLT,opE_nilck,nilR_ptr,hr,gw]
  generalize hq:codeEv (run A n) (ev A n).2 a49_L2 _=q
  have h:=scan0 (A:=A) a49_L2 a49_B2 a49_L2_step
   (fun i (Q:List (Int×Int)) s=>∃ T m2,s=⟨84,T,[],m2⟩∧keepT [5,6] [] T=[(5,.slice b 0 L.length none 2),(6,.int .i64 (i:Int))]∧m2.get b=some (.cells (Q.flatMap prow) true)∧Q.length=L.length∧m2.n=m1.n∧∀ j,j≠b→m2.get j=m1.get j)
   (fun Q s=>∃ T m2,s=⟨84,T,[],m2⟩∧keepT [5] [] T=[(5,.slice b 0 L.length none 2)]∧m2.get b=some (.cells (Q.flatMap prow) true)∧Q.length=L.length∧m2.n=m1.n∧∀ j,j≠b→m2.get j=m1.get j)
   (fun (_:Unit) s=>False) 0 (L.length+1) isrS (List.range L.length)
   (fun N Q s hN ⟨T,m2,hs,hk,hg,hQ,hn2,hkeep⟩=>by
    subst hs
    rw [List.length_range] at hk
    have h':¬(L.length:Int) < (L.length:Int):=by omega
    unfold a49_B2
    exact ⟨_,by simp only [KK,Nat.reduceEqDiff,Nat.reduceLT,hk,h']; rfl,_,m2,rfl,by simp only [keepT,List.map,look_set,look_cons,in_slice,Nat.reduceEqDiff,if_true,if_false],hg,hQ,hn2,hkeep⟩)
   (fun N i x Q s hN hx ⟨T,m2,hs,hk,hg,hQ,hn2,hkeep⟩=>by
    subst hs
    have hil:i < L.length:=by have:=(List.getElem?_eq_some_iff.1 hx).1; rwa [List.length_range] at this
    have hxi:x=i:=by rw [List.getElem?_range hil] at hx; exact (Option.some.inj hx).symm
    subst hxi
    have h':(x:Int) < (L.length:Int):=by omega
    have a1:=add_i x (by omega)
    unfold isrS
    dsimp only
    unfold a49_B2
    simp only [KK,Nat.reduceEqDiff,Nat.reduceLT,hk,h']
    generalize hq2:codeEv (run A N) (ev A N).2 a49_L1 _=q2
    obtain ⟨T',m3,rfl,k2,g3,n3,hkeep3⟩:=back_inq b L.length x (by omega) x N m2 Q _ hil hQ (by omega) (by omega) hg (by simp only [keepT,List.map,look_set,look_cons,in_int,in_slice,Nat.reduceEqDiff,if_true,if_false]) hq2
    exact ⟨_,by simp only [look_set,look_nil,look_cons,Option.map_some,Nat.reduceEqDiff,Nat.reduceLT,if_true,if_false,k2,a1]; rfl,_,m3,rfl,by simp only [keepT,List.map,look_set,look_cons,in_int,in_slice,Nat.reduceEqDiff,if_true,if_false],g3,(bubP_len _ _).trans hQ,n3.trans hn2,fun j hj=>(hkeep3 j hj).trans (hkeep j hj)⟩)
   n L _ (by rw [List.length_range]; omega) ⟨_,m1,rfl,by simp only [keepT,List.map,look_set,look_cons,in_int,in_slice,Nat.reduceEqDiff,if_true,if_false]; rfl,h1,rfl,rfl,fun _ _=>rfl⟩ hq
  rw [fold_isr] at h
  obtain ⟨s',e,T',m2,rfl,hk',hg,hQ,hn2,hkeep⟩:=h
  subst e
  have hso:(List.range L.length).foldl (fun L i=>bubP i L) L=sortP L:=isort_eq L
  rw [hso] at hg
  refine ⟨.slice b 0 L.length none 2,m2,by simp only [look_set,look_nil,look_cons,loc_slice,Nat.reduceEqDiff,Nat.reduceLT,if_true,if_false,Bool.false_eq_true,Nat.succ_ne_self,hk'],.inr ⟨b,by omega,by rw [sortP_len],hg,by rw [prow_len]⟩,⟨by have:=hex.1; omega,fun j hj=>(hkeep j (by omega)).trans (hex.2 j hj)⟩,by omega,by rw [sortP_len]; omega⟩
def WalkOk (n:Nat) (m:Mem) (I:ImV) (M:Img) (F:Int) (D:DS) (G:Nat):Prop:=∃ va vb m',run A n 78 [.agg (ic I M),.int .i64 F] m=some (.tup [va,vb],m')∧OS 1 m.n m' va (D.l.map fun z=>AV.int .i64 z) D.l.length∧OS 2 m.n m' vb (D.b.flatMap prow) D.b.length∧(∀ k,blkOf va=some k→blkOf vb≠some k)∧Gr m m' G∧D.l.length≤M.code.length∧D.b.length≤2*M.code.length
theorem walkG_run (N:Nat) (m:Mem) (I:ImV) (M:Img) (hm:IM m I M) (hT:Tab m) (m0:Mem) (NC KC:Nat) (hck:CkOk m0 I M NC KC 54 (checkI M)) (he:Ext m0 m) (hlc:M.code.length≤20000) (f:Int) (hmn:m.n+KC+40*M.code.length+60≤2 ^ depth) (hN:NC+8*M.code.length+60≤N):WalkOk N m I M f (wayF M f) (KC+40*M.code.length+10):=by
 by_cases hv:checkI M=0∧0≤f∧f < (M.funcs.length:Int)
 ·obtain ⟨hc,h0,hl⟩:=hv
  obtain ⟨g,rfl⟩:∃ g:Nat,f=(g:Int):=⟨f.toNat,by omega⟩
  have hgl:g < M.funcs.length:=by omega
  have hfr:=entry_in hc hgl
  have hw:wayF M (g:Int)=wayS M (fromP M g).toNat:=by unfold wayF; rw [if_pos ⟨hc,h0,hl⟩,Int.toNat_natCast]
  rw [hw]
  rw [hc] at hck
  obtain ⟨va,vb,m',h⟩:=walk_run N m I M hm hT m0 NC KC hck he (codes_ok hc) (next_in hc) hlc g hgl hfr hmn hN
  exact ⟨va,vb,m',h⟩
 have hw:wayF M f=⟨List.replicate M.code.length 0,[],[]⟩:=by unfold wayF; exact if_neg hv
 rw [hw]
 obtain ⟨n,rfl⟩:∃ n,N=n+1:=⟨N - 1,by omega⟩
 have hP:=hm.pls
 have hf0:=not_full (m:=m) (by omega)
 have f1:=not_full (m:=m.push (.cells (ic I M) true)) (by rw [push_n]; omega)
 have x2:Ext m ((m.push (.cells (ic I M) true)).push (.cells [.nils] true)):=((Ext.refl m).push _ (by omega)).push _ (by rw [push_n]; omega)
 have f2:=not_full (m:=(m.push (.cells (ic I M) true)).push (.cells [.nils] true)) (by rw [push_n,push_n]; omega)
 have x3:Ext m (((m.push (.cells (ic I M) true)).push (.cells [.nils] true)).push (.cells [.nils] true)):=x2.push _ (by rw [push_n,push_n]; omega)
 have n1:(((m.push (.cells (ic I M) true)).push (.cells [.nils] true)).push (.cells [.nils] true)).n=m.n+3:=by rw [push_n,push_n,push_n]
 have g0:(((m.push (.cells (ic I M) true)).push (.cells [.nils] true)).push (.cells [.nils] true)).get m.n=some (.cells (ic I M) true):=(Mem.get_push_old _ f2 (by rw [push_n,push_n]; omega)).trans ((Mem.get_push_old _ f1 (by rw [push_n]; omega)).trans (Mem.get_push_new _))
 have g1:(((m.push (.cells (ic I M) true)).push (.cells [.nils] true)).push (.cells [.nils] true)).get (m.n+1)=some (.cells [.nils] true):=by
  have:=Mem.get_push_new (m:=m.push (.cells (ic I M) true)) (.cells [.nils] true)
  rw [push_n] at this
  exact (Mem.get_push_old _ f2 (by rw [push_n,push_n]; omega)).trans this
 have g2:(((m.push (.cells (ic I M) true)).push (.cells [.nils] true)).push (.cells [.nils] true)).get (m.n+2)=some (.cells [.nils] true):=by
  have:=Mem.get_push_new (m:=(m.push (.cells (ic I M) true)).push (.cells [.nils] true)) (.cells [.nils] true)
  rw [push_n,push_n] at this
  exact this
 generalize hm1:((m.push (.cells (ic I M) true)).push (.cells [.nils] true)).push (.cells [.nils] true)=m1 at*
 have fin:∀ m2:Mem,m.n+3≤m2.n→m2.n≤m.n+KC+3→Ext m m2→m2.get (m.n+1)=some (.cells [.nils] true)→m2.get (m.n+2)=some (.cells [.nils] true)→
   (∀ m3,(m2.set (m.n+1) (.cells [.nils] true)).set (m.n+1+1) (.cells [.nils] true)=m3→m3.get (m.n+1)=some (.cells [.nils] true)→m3.get (m.n+1+1)=some (.cells [.nils] true)→m2.get (m.n+1)=some (.cells [.nils] true)∧(m2.set (m.n+1) (.cells [.nils] true)).get (m.n+1+1)=some (.cells [.nils] true)→run A (n+1) 78 [.agg (ic I M),.int .i64 f] m=some (.tup [.nils,.nils],m3))→
   WalkOk (n+1) m I M f ⟨List.replicate M.code.length 0,[],[]⟩ (KC+40*M.code.length+10):=by
  intro m2 hn hn' hx h1 h2 hrun
  have hle:m2.n≤2 ^ depth:=by omega
  have l1:m.n+1 < m2.n:=by omega
  have l2:m.n+1+1 < (m2.set (m.n+1) (.cells [.nils] true)).n:=by rw [set_n]; omega
  have hle2:(m2.set (m.n+1) (.cells [.nils] true)).n≤2 ^ depth:=by rw [set_n]; exact hle
  have k2:(m2.set (m.n+1) (.cells [.nils] true)).get (m.n+1+1)=some (.cells [.nils] true):=(Mem.get_set_ne _ hle l1 (by omega)).trans h2
  have r1:((m2.set (m.n+1) (.cells [.nils] true)).set (m.n+1+1) (.cells [.nils] true)).get (m.n+1)=some (.cells [.nils] true):=(Mem.get_set_ne _ hle2 l2 (by omega)).trans (Mem.get_set_same _ l1)
  have r2:((m2.set (m.n+1) (.cells [.nils] true)).set (m.n+1+1) (.cells [.nils] true)).get (m.n+1+1)=some (.cells [.nils] true):=Mem.get_set_same _ l2
  refine ⟨.nils,.nils,_,hrun _ rfl r1 r2 ⟨h1,k2⟩,.inl ⟨rfl,rfl,rfl⟩,.inl ⟨rfl,rfl,rfl⟩,(fun k hk=>by cases hk),⟨⟨by rw [set_n,set_n]; omega,fun i hi=>?_⟩,by rw [set_n,set_n]; omega⟩,by simp,by simp⟩
  rw [Mem.get_set_ne _ hle2 l2 (by omega),Mem.get_set_ne _ hle l1 (by omega)]
  exact hx.2 i hi
 rw [run_78] at fin
 unfold fnEv a78 at fin
 by_cases h0:f < 0
 ·have d1:decide (f < 0)=true:=decide_eq_true h0
  exact fin m1 (by omega) (by omega) (by first | exact x3 | exact x3.trans hg.1) (by first | exact g1 | exact (hg.1.2 _ (by omega)).trans g1) (by first | exact g2 | exact (hg.1.2 _ (by omega)).trans g2) (fun m3 hm3 r1 r2 k1=>by simp only [KK,Nat.reduceEqDiff,Nat.reduceAdd,Nat.reduceLeDiff,Nat.reduceLT,push_n,hf0,f1,f2,push_n,hm1,d1,k1,r1,r2,hm3])
 have d1:decide (f < 0)=false:=decide_eq_false h0
 by_cases hl:(M.funcs.length:Int)≤f
 ·have d2:decide ((M.funcs.length:Int)≤f)=true:=decide_eq_true hl
  exact fin m1 (by omega) (by omega) (by first | exact x3 | exact x3.trans hg.1) (by first | exact g1 | exact (hg.1.2 _ (by omega)).trans g1) (by first | exact g2 | exact (hg.1.2 _ (by omega)).trans g2) (fun m3 hm3 r1 r2 k1=>by simp only [KK,Nat.reduceEqDiff,Nat.reduceAdd,Nat.reduceLeDiff,Nat.reduceLT,push_n,hP,hf0,f1,f2,push_n,hm1,g0,d1,d2,k1,r1,r2,hm3])
 have d2:decide ((M.funcs.length:Int)≤f)=false:=decide_eq_false hl
 have hc:¬checkI M=0:=fun h=>hv ⟨h,by omega,by omega⟩
 have d3:decide (checkI M=0)=false:=decide_eq_false hc
 obtain ⟨m2,hr,hg⟩:=hck n m1 (by omega) (he.trans x3) (by omega)
 have hgn:=hg.2
 have hgl:=hg.1.1
 exact fin m2 (by omega) (by omega) (by first | exact x3 | exact x3.trans hg.1) (by first | exact g1 | exact (hg.1.2 _ (by omega)).trans g1) (by first | exact g2 | exact (hg.1.2 _ (by omega)).trans g2) (fun m3 hm3 r1 r2 k1=>by simp only [KK,Nat.reduceEqDiff,Nat.reduceAdd,Nat.reduceLeDiff,Nat.reduceLT,push_n,hP,hf0,f1,f2,push_n,hm1,g0,d1,d2,hr,d3,k1,r1,r2,hm3])
theorem reachedG_run (N:Nat) (m:Mem) (I:ImV) (M:Img) (hm:IM m I M) (f:Int) (D:DS) (G NW:Nat) (hwk:∀ (n:Nat) (m1:Mem),NW≤n→Ext m m1→m1.n≤m.n+2→WalkOk n m1 I M f D G) (hlc:M.code.length≤20000) (hmn:m.n+G+60≤2 ^ depth) (hN:NW+8*M.code.length+70≤N):
  ∃ v m',run A N 40 [.agg (ic I M),.int .i64 f] m=some (v,m')∧IS m.n m' v (sortZ D.l)∧Gr m m' (G)∧D.l.length≤M.code.length:=by
 obtain ⟨n,rfl⟩:∃ n,N=n+1:=⟨N - 1,by omega⟩
 have hP:=hm.pls
 obtain ⟨va,vb,m1,hr,ha,hb,hab,hg,hl1,hl2⟩:=hwk n m (by omega) (Ext.refl m) (by omega)
 have hgn:=hg.2
 obtain ⟨m2,hs,o2,n2,k2⟩:=sort_at (n - 1) ha (by omega) (by omega)
 rw [show n - 1+1=n by omega] at hs
 obtain ⟨a1,a2,a3,a4⟩:=ha.plain
 obtain ⟨b1,b2,b3,b4⟩:=hb.plain
 refine ⟨va,m2,?_,by unfold IS; rw [len_sort]; exact o2,⟨⟨by have:=hg.1.1; omega,fun i hi=>(k2 i hi).trans (hg.1.2 i hi)⟩,by omega⟩,hl1⟩
 rw [run_40]
 unfold fnEv a40
 simp only [KK,Nat.reduceEqDiff,Nat.reduceAdd,Nat.reduceLeDiff,Nat.reduceLT,hr,a1,a2,hs]
theorem rowG_run (N:Nat) (m:Mem) (I:ImV) (M:Img) (hm:IM m I M) (f:Int) (D:DS) (G NW:Nat) (hwk:∀ (n:Nat) (m1:Mem),NW≤n→Ext m m1→m1.n≤m.n+2→WalkOk n m1 I M f D G) (hlc:M.code.length≤20000) (hmn:m.n+G+60≤2 ^ depth) (hN:NW+8*M.code.length+70≤N):
  ∃ v m',run A N 43 [.agg (ic I M),.int .i64 f] m=some (v,m')∧IS m.n m' v D.l.reverse∧Gr m m' (G+2):=by
 obtain ⟨n,rfl⟩:∃ n,N=n+1:=⟨N - 1,by omega⟩
 have hP:=hm.pls
 have f0:=not_full (m:=m) (by omega)
 have x1:Ext m (m.push (.cells (ic I M) true)):=(Ext.refl m).push _ (by omega)
 have f1:=not_full (m:=m.push (.cells (ic I M) true)) (by rw [push_n]; omega)
 have x2:Ext m ((m.push (.cells (ic I M) true)).push (.cells [.nils] true)):=x1.push _ (by rw [push_n]; omega)
 have g0:((m.push (.cells (ic I M) true)).push (.cells [.nils] true)).get m.n=some (.cells (ic I M) true):=(Mem.get_push_old _ f1 (by rw [push_n]; omega)).trans (Mem.get_push_new _)
 have g1:((m.push (.cells (ic I M) true)).push (.cells [.nils] true)).get (m.n+1)=some (.cells [.nils] true):=by
  have:=Mem.get_push_new (m:=m.push (.cells (ic I M) true)) (.cells [.nils] true)
  rw [push_n] at this
  exact this
 have n1:((m.push (.cells (ic I M) true)).push (.cells [.nils] true)).n=m.n+2:=by rw [push_n,push_n]
 generalize hm1:(m.push (.cells (ic I M) true)).push (.cells [.nils] true)=m1 at*
 obtain ⟨va,vb,m2,hr,ha,hb,hab,hg,hl1,hl2⟩:=hwk n m1 (by omega) x2 (by omega)
 have hgn:=hg.2
 have hg1:=hg.1.1
 obtain ⟨a1,a2,a3,a4⟩:=ha.plain
 obtain ⟨b1,b2,b3,b4⟩:=hb.plain
 have hab':=ha.blk
 have k1:=(hg.1.2 (m.n+1) (by omega)).trans g1
 have l1:m.n+1 < m2.n:=by omega
 have hle:m2.n≤2 ^ depth:=by omega
 have k2:=Mem.get_set_same (m:=m2) (.cells [va] true) l1
 have l2:m.n+1 < (m2.set (m.n+1) (.cells [va] true)).n:=by rw [set_n]; exact l1
 have k3:=Mem.get_set_same (m:=m2.set (m.n+1) (.cells [va] true)) (.cells [va] true) l2
 have hn3:((m2.set (m.n+1) (.cells [va] true)).set (m.n+1) (.cells [va] true)).n=m2.n:=by rw [set_n,set_n]
 have ks:∀ j,j≠m.n+1→((m2.set (m.n+1) (.cells [va] true)).set (m.n+1) (.cells [va] true)).get j=m2.get j:=fun j hj=>(Mem.get_set_ne _ (by rw [set_n]; exact hle) l2 (fun e=>hj e.symm)).trans (Mem.get_set_ne _ hle l1 (fun e=>hj e.symm))
 have ha3:IS m1.n ((m2.set (m.n+1) (.cells [va] true)).set (m.n+1) (.cells [va] true)) va D.l:=ha.keep fun b hb=>ks b (by have:=(hab' b hb).1; omega)
 generalize hm3:(m2.set (m.n+1) (.cells [va] true)).set (m.n+1) (.cells [va] true)=m3 at*
 obtain ⟨m4,hrv,hi4,n4,k4⟩:=reverse_run n m3 m1.n va D.l ha3 (by omega) (by omega) (by omega)
 have k5:=(k4 (m.n+1) (fun e=>by have:=(hab' _ e).1; omega)).trans k3
 obtain ⟨T0,cA,p1,p2,p4⟩:∃ T0,codeEv (run A n) noAgain d43.A ⟨13,argsT 0 [.agg (ic I M),.int .i64 f],[],m⟩=some (.norm,⟨13,T0,[],m1⟩)∧look T0 1=.int .i64 f∧look T0 2=.ptr m.n 0∧look T0 4=.ptr (m.n+1) 0:=
  ⟨_,by simp only [KK,d43,Nat.reduceEqDiff,Nat.reduceAdd,Nat.reduceLT,push_n,f0,f1,push_n,hm1]; rfl,by simp only [look_set,look_cons,Nat.reduceEqDiff,if_true,if_false],by simp only [look_set,look_cons,Nat.reduceEqDiff,if_true,if_false],by simp only [look_set,look_cons,Nat.reduceEqDiff,if_true,if_false]⟩
 obtain ⟨T1,cP,q1,q2,q4,q5⟩:∃ T1,opsEv (run A n) d43.pre ⟨13,T0,[],m1⟩=some ⟨13,T1,[],m1⟩∧look T1 1=.int .i64 f∧look T1 2=.ptr m.n 0∧look T1 4=.ptr (m.n+1) 0∧look T1 5=.fn 83 [.ptr (m.n+1) 0]:=
  ⟨_,by simp only [KK,d43,Nat.reduceLT,p4]; rfl,by simp only [look_set,Nat.reduceEqDiff,if_false,p1],by simp only [look_set,Nat.reduceEqDiff,if_false,p2],by simp only [look_set,Nat.reduceEqDiff,if_false,p4],by simp only [look_set,if_true]⟩
 have hkq:keepT [1,2,4] [] T1=[(1,.int .i64 f),(2,.ptr m.n 0),(4,.ptr (m.n+1) 0)]:=by simp only [keepT,List.map,q1,q2,q4,keepT,List.map,in_int,in_ptr,if_true]
 obtain ⟨T2,cC,r4⟩:∃ T2,codeEv (run A n) (lpEv (run A n) 1000) d43.C ⟨13,T1,[],m1⟩=some (.ret,⟨13,T2,[],m3⟩)∧look T2 4=.ptr (m.n+1) 0:=
  ⟨_,by simp only [KK,d43,Nat.reduceEqDiff,Nat.reduceAdd,Nat.reduceLeDiff,Nat.reduceLT,hkq,g0,hr,a3,a4,k1,k2,hm3]; rfl,by simp only [look_set,look_cons,Nat.reduceEqDiff,if_true,if_false]⟩
 have cD:fnEv (run A n) noAgain d43.D [.ptr (m.n+1) 0] m3=some (.tup [],m4):=by
  unfold fnEv
  simp only [KK,d43,a83,Nat.reduceEqDiff,Nat.reduceAdd,Nat.reduceLeDiff,Nat.reduceLT,k3,a2,hrv]
 refine ⟨va,m4,?_,by
  rcases hi4 with h | ⟨b,h0,h1,h2⟩
  ·exact .inl h
  ·exact .inr ⟨b,by omega,h1,h2⟩,⟨⟨by omega,fun i hi=>(k4 i (fun e=>by have:=(hab' _ e).1; omega)).trans ((ks i (by omega)).trans ((hg.1.2 i (by omega)).trans (x2.2 i hi)))⟩,by omega⟩⟩
 rw [run_43]
 unfold fnEv a43 primFn
 dsimp only
 unfold deferEv
 rw [if_pos (show ([.agg (ic I M),.int .i64 f]:List AV).length=d43.np from rfl),show d43.n=13 from rfl,cA]
 dsimp only
 rw [cP]
 dsimp only
 rw [show d43.g=5 from rfl,q5]
 dsimp only
 rw [if_pos (show 83=d43.fD from rfl),show d43.post=[] from rfl]
 simp only [opsEv]
 rw [cC]
 dsimp only
 rw [cD]
 simp only [KK,d43,Nat.reduceAdd,Nat.reduceLeDiff,r4,k5,a2]
theorem backsG_run (N:Nat) (m:Mem) (I:ImV) (M:Img) (hm:IM m I M) (f:Int) (D:DS) (G NW:Nat) (hwk:∀ (n:Nat) (m1:Mem),NW≤n→Ext m m1→m1.n≤m.n+2→WalkOk n m1 I M f D G) (hlc:M.code.length≤20000) (hmn:m.n+G+60≤2 ^ depth) (hN:NW+8*M.code.length+70≤N):
  ∃ v m',run A N 41 [.agg (ic I M),.int .i64 f] m=some (v,m')∧OS 2 m.n m' v ((sortP D.b).flatMap prow) (sortP D.b).length∧(sortP D.b).length≤2*M.code.length∧Gr m m' (G):=by
 obtain ⟨n,rfl⟩:∃ n,N=n+1:=⟨N - 1,by omega⟩
 have hP:=hm.pls
 obtain ⟨va,vb,m1,hr,ha,hb,hab,hg,hl1,hl2⟩:=hwk n m (by omega) (Ext.refl m) (by omega)
 have hgn:=hg.2
 obtain ⟨m2,hs,o2,n2,k2⟩:=sortf_at (n - 1) hb (by omega) (by omega)
 rw [show n - 1+1=n by omega] at hs
 obtain ⟨a1,a2,a3,a4⟩:=ha.plain
 obtain ⟨b1,b2,b3,b4⟩:=hb.plain
 refine ⟨vb,m2,?_,o2,by rw [sortP_len]; exact hl2,⟨⟨by have:=hg.1.1; omega,fun i hi=>(k2 i hi).trans (hg.1.2 i hi)⟩,by omega⟩⟩
 rw [run_41]
 unfold fnEv a41
 simp only [KK,Nat.reduceEqDiff,Nat.reduceAdd,Nat.reduceLeDiff,Nat.reduceLT,hr,b1,b2,hs]
theorem range_run (N:Nat) (m:Mem) (I:ImV) (M:Img) (hm:IM m I M) (hl:M.funcs.length≤100000) (m0:Mem) (c:Int) (NC KC:Nat) (hck:CkOk m0 I M NC KC 54 c) (he:Ext m0 m) (hmn:m.n+KC≤2 ^ depth) (hN:NC+3≤N) (f:Int):
  ∃ m',run A N 73 [.agg (ic I M),.int .i64 f] m=some (.tup [.int .i64 (rangeP M c f).1,.int .i64 (rangeP M c f).2],m')∧Gr m m' KC:=by
 obtain ⟨n,rfl⟩:∃ n,N=n+1:=⟨N - 1,by omega⟩
 have hP:=hm.pls
 obtain ⟨m',hc,hg⟩:=hck n m (by omega) he hmn
 refine ⟨m',?_,hg⟩
 have hm':=hm.ext hg.1
 rw [run_73]
 unfold fnEv a73
 cases d0:decide (c=0)
 ·have hz:rangeP M c f=(0,0):=by have:=of_decide_eq_false d0; unfold rangeP; rw [if_neg this]
  rw [hz]
  simp only [KK,Nat.reduceEqDiff,Nat.reduceAdd,Nat.reduceLeDiff,Nat.reduceLT,hc,d0]
 cases d1:decide (f < 0)
 rotate_left
 ·have hz:rangeP M c f=(0,0):=by have:=of_decide_eq_true d1; unfold rangeP; rw [if_pos (of_decide_eq_true d0)]; unfold spanP; rw [if_pos (by omega)]
  rw [hz]
  simp only [KK,Nat.reduceEqDiff,Nat.reduceAdd,Nat.reduceLeDiff,Nat.reduceLT,hc,d0,d1]
 cases d2:decide ((M.funcs.length:Int)≤f)
 rotate_left
 ·have hz:rangeP M c f=(0,0):=by have:=of_decide_eq_true d2; unfold rangeP; rw [if_pos (of_decide_eq_true d0)]; unfold spanP; rw [if_pos (by omega)]
  rw [hz]
  simp only [KK,Nat.reduceEqDiff,Nat.reduceAdd,Nat.reduceLeDiff,Nat.reduceLT,hP,hc,d0,d1,d2]
 have q1:=of_decide_eq_false d1
 have q2:=of_decide_eq_false d2
 have hz:rangeP M c f=(fromP M f.toNat,toP M f.toNat):=by unfold rangeP; rw [if_pos (of_decide_eq_true d0)]; unfold spanP; rw [if_neg (by omega)]
 rw [hz]
 obtain ⟨k,rfl⟩:∃ k:Nat,f=(k:Int):=⟨f.toNat,by omega⟩
 have hb:=bounds_run n (by omega) m' I M hm' k (by omega) (by omega)
 simp only [KK,Nat.reduceEqDiff,Nat.reduceAdd,Nat.reduceLeDiff,Nat.reduceLT,Int.toNat_natCast,hP,hc,d0,d1,d2,hb]
def idxS (x:Int) (i:Nat) (y:Int) (_:Unit):Stp Unit Nat:=if y=x then .ret i else .go ()
theorem fold_idx (x:Int):∀ (l:List Int) (i:Nat),(l.contains x=false∧foldS (idxS x) l i ()=.inl ())∨(l.contains x=true∧∃ k:Nat,foldS (idxS x) l i ()=.inr k)
 | [],i=>.inl ⟨rfl,rfl⟩
 | y::r,i=>by
  simp only [foldS,idxS,List.contains_cons]
  by_cases h:y=x
  ·subst h
   refine .inr ⟨by simp,i,by simp⟩
  ·have hb:(x == y)=false:=by simpa using fun e=>h e.symm
   rw [hb,if_neg h,Bool.false_or]
   exact fold_idx x r (i+1)
theorem index_run (N:Nat) (m:Mem) (u:AV) (l:List Int) (hu:RE m u l) (hl:l.length≤1000000) (x:Int) (hN:l.length+2≤N):∃ k:Int,run A N 121 [u,.int .i64 x] m=some (.int .i64 k,m)∧(l.contains x=decide (0≤k)):=by
 obtain ⟨n,rfl⟩:∃ n,N=n+1:=⟨N - 1,by omega⟩
 obtain ⟨u1,u2,u3,u4⟩:=hu.plain
 have lu:=hu.lenR
 rw [run_121]
 unfold fnEv a121
 simp only [KK,Nat.reduceEqDiff,Nat.reduceAdd,Nat.reduceLT,u1,lu]
 generalize hq:codeEv (run A n) (ev A n).2 a121_L1 _=q
 have h:=scan0 (A:=A) a121_L1 a121_B1 a121_L1_step (fun i (_:Unit) s=>∃ T L,s=⟨19,T,L,m⟩∧keepT [0,1,7,8] [] T=[(0,u),(1,.int .i64 x),(7,.int .i64 (l.length:Int)),(8,.int .i64 (i:Int))]) (fun _ s=>∃ T L,s=⟨19,T,L,m⟩) (fun (k:Nat) s=>∃ T L,s=⟨19,T,L,m⟩∧look T 4=.int .i64 (k:Int)) 0 1 (idxS x) l
  (fun N b s hN ⟨T,L,hs,hk⟩=>by
   subst hs
   have h':¬(l.length:Int) < (l.length:Int):=by omega
   unfold a121_B1
   exact ⟨_,by simp only [KK,Nat.reduceEqDiff,Nat.reduceLT,hk,h']; rfl,_,_,rfl⟩)
  (fun N i y b s hN hx ⟨T,L,hs,hk⟩=>by
   subst hs
   have hlt:=(List.getElem?_eq_some_iff.1 hx).1
   have h':(i:Int) < (l.length:Int):=by omega
   obtain ⟨b2,o,cs,ow,e1,e2,e3⟩:=hu.i1 hx
   have a1:=add_i i (by omega)
   unfold idxS
   unfold a121_B1
   cases hd:decide (x=y)
   ·rw [if_neg (fun e=>of_decide_eq_false hd e.symm)]
    exact ⟨_,by simp only [KK,Nat.reduceEqDiff,Nat.reduceLT,hk,h',e1,e2,e3,u1,hd,a1]; rfl,_,_,rfl,by simp only [keepT,List.map,look_set,look_cons,in_int,Nat.reduceEqDiff,if_true,if_false,u1]⟩
   ·rw [if_pos (of_decide_eq_true hd).symm]
    exact ⟨_,by simp only [KK,Nat.reduceEqDiff,Nat.reduceLT,hk,h',e1,e2,e3,u1,hd]; rfl,_,_,rfl,by simp only [look_set,look_cons,Nat.reduceEqDiff,if_true,if_false]⟩)
  n () ⟨19,_,_,m⟩ (by omega) ⟨_,_,rfl,by simp only [keepT,List.map,look_set,look_cons,in_int,Nat.reduceEqDiff,if_true,if_false,u1]; rfl⟩ hq
 rcases fold_idx x l 0 with ⟨h1,h2⟩ | ⟨h1,k,h2⟩
 ·rw [h2] at h
  obtain ⟨s',rfl,T',L',rfl⟩:=h
  exact ⟨-1,by simp only [look_set,loc_int,Nat.reduceLT,if_true,if_false,Bool.false_eq_true],by rw [h1]; rfl⟩
 ·rw [h2] at h
  obtain ⟨s',rfl,T',L',rfl,h3⟩:=h
  exact ⟨(k:Int),by simp only [loc_int,if_false,Bool.false_eq_true,h3],by rw [h1]; exact (decide_eq_true (by omega)).symm⟩
theorem contains_run (N:Nat) (m:Mem) (u:AV) (l:List Int) (hu:RE m u l) (hl:l.length≤1000000) (x:Int) (hN:l.length+3≤N):run A N 88 [u,.int .i64 x] m=some (.bool (l.contains x),m):=by
 obtain ⟨n,rfl⟩:∃ n,N=n+1:=⟨N - 1,by omega⟩
 obtain ⟨u1,u2,u3,u4⟩:=hu.plain
 obtain ⟨k,h1,h2⟩:=index_run n m u l hu hl x (by omega)
 rw [run_88,h2]
 unfold fnEv a88
 simp only [KK,Nat.reduceEqDiff,Nat.reduceAdd,Nat.reduceLT,u1,u2,h1]
end AG
