/- What the functions that read images and paths compute, and the laws of that. -/
import Derived.Test.YtkmbepgofajfkaaDoorAgPg
namespace AG
open Go Go.Proofs.YtkmbepgofajfkaaDoor
set_option maxRecDepth 100000
set_option maxHeartbeats 4000000
def orderR (all:List (List Int)):List Int:=match foldS (kahnS all) (List.range all.length) 0 [] with
 | .inl o=>o
 | .inr o=>o
theorem rounds_loop (mA m:Mem) (I:ImV) (M:Img) (hm:IM mA I M) (he0:Ext mA m) (all:List (List Int)) (a:AV) (ha:AS mA a all) (hln:all.length=M.funcs.length) (hal:all.length≤1000) (hll:∀ l∈all,l.length≤1000) (k:Nat) (hkA:k=mA.n) (hk0:m.get k=some (.map [] 0)) (hmn:m.n+2*all.length+6≤2 ^ depth) (N:Nat) (T:List (Nat×AV)) (L:List (Nat×List AV)) (hN:2*all.length+1002≤N) (hk:keepT [1,3,4,6] [1] T=[(1,.loc 1 0),(3,.nils),(4,a),(6,.map k)]) (hL:lookL L 1=some (ic I M)) {q:Option (Ex×St)} (hq:codeEv (run A N) (ev A N).2 a77_L3 ⟨76,T,L,m⟩=q):
  ∃ T' L' m' v,((q=some (.exit 2,⟨76,T',L',m'⟩)∧keepT [3] [] T'=[(3,v)])∨(q=some (.ret,⟨76,T',L',m'⟩)∧look T' 2=v))∧OS 1 (k+1) m' v ((orderR all).map fun z=>AV.int .i64 z) (orderR all).length∧Ext mA m'∧m'.n≤m.n+2*all.length:=by
 have hrl:(List.range all.length).length=all.length:=List.length_range
 have h:=scan0 (A:=A) a77_L3 a77_B3 a77_L3_step (fun i (out:List Int) s=>∃ T L m1 v,s=⟨76,T,L,m1⟩∧keepT [1,3,4,6] [1] T=[(1,.loc 1 0),(3,v),(4,a),(6,.map k)]∧lookL L 1=some (ic I M)∧OS 1 (k+1) m1 v (out.map fun z=>AV.int .i64 z) out.length∧m1.get k=some (.map (thereE out 0) out.length)∧Ext mA m1∧m1.n≤m.n+2*i∧out.length=i∧i≤all.length) (fun out s=>∃ T L m1 v,s=⟨76,T,L,m1⟩∧keepT [3] [] T=[(3,v)]∧OS 1 (k+1) m1 v (out.map fun z=>AV.int .i64 z) out.length∧Ext mA m1∧m1.n≤m.n+2*all.length) (fun out s=>∃ T L m1 v,s=⟨76,T,L,m1⟩∧look T 2=v∧OS 1 (k+1) m1 v (out.map fun z=>AV.int .i64 z) out.length∧Ext mA m1∧m1.n≤m.n+2*all.length) 2 (all.length+1002) (kahnS all) (List.range all.length)
  (fun N out s hN ⟨T,L,m1,v,hs,hk,hL,ho,hkk,he,hm1,hol,hi⟩=>by
   subst hs
   rw [hrl] at hol hm1
   have hP:=hm.pls
   obtain ⟨v1,v2,v3,v4⟩:=ho.plain
   have lo:∀ s,AG.lenR v s=some (.int .i64 out.length,s):=ho.ints.lenR
   have h':¬(out.length:Int) < (M.funcs.length:Int):=by omega
   unfold a77_B3
   exact ⟨_,by simp only [KK,Nat.reduceEqDiff,Nat.reduceAdd,Nat.reduceLeDiff,Nat.reduceLT,hk,hL,h',hP,lo]; rfl,_,_,_,_,rfl,by simp only [keepT,List.map,look_set,look_cons,Nat.reduceEqDiff,if_true,if_false,v1],ho,he,hm1⟩)
  (fun N i g out s hN hg ⟨T,L,m1,v,hs,hk,hL,ho,hkk,he,hm1,hol,hi⟩=>by
   subst hs
   have hlt:=(List.getElem?_eq_some_iff.1 hg).1
   rw [hrl] at hlt
   unfold kahnS
   rcases round_body mA m1 I M (hm.ext he) he all a v (ha.ext he) hln hal hll k hkA out (by omega) hkk ho (by omega) N T L hN hk hL with ⟨h1,T',L',e1,e2⟩ | ⟨h1,T',L',m2,v',e1,e2,e3,e4,e5,e6,e7⟩
   ·rw [if_pos h1]
    exact ⟨_,e1,_,_,_,_,rfl,e2,ho,he,by omega⟩
   ·rw [if_neg h1]
    exact ⟨_,e1,_,_,_,_,rfl,e2,e3,e4,e5,e6,by omega,by rw [List.length_append,List.length_singleton]; omega,by omega⟩)
  N [] ⟨76,T,L,m⟩ (by rw [hrl]; omega) ⟨T,L,m,.nils,rfl,hk,hL,.inl ⟨rfl,rfl,rfl⟩,hk0,he0,by omega,rfl,by omega⟩ hq
 unfold orderR
 cases hfo:foldS (kahnS all) (List.range all.length) 0 [] with
 | inl o=>
  rw [hfo] at h
  obtain ⟨s',e,T',L',m',v,rfl,h2,h3,h4,h5⟩:=h
  exact ⟨T',L',m',v,.inl ⟨e,h2⟩,h3,h4,h5⟩
 | inr o=>
  rw [hfo] at h
  obtain ⟨s',e,T',L',m',v,rfl,h2,h3,h4,h5⟩:=h
  exact ⟨T',L',m',v,.inr ⟨e,h2⟩,h3,h4,h5⟩
theorem rcalls_len (M:Img) (f:Nat):(rcallsP M f).length≤M.funcs.length:=by
 unfold rcallsP refG
 rw [List.length_map]
 exact Nat.le_trans (List.length_filter_le _ _) (by rw [List.length_range]; exact Nat.le_refl _)
theorem rorder_run (N:Nat) (m:Mem) (I:ImV) (M:Img) (hm:IM m I M) (hl:M.code.length≤100000) (hlf:M.funcs.length≤1000) (hsp:∀ f,f < M.funcs.length→0≤fromP M f∧fromP M f≤toP M f∧toP M f≤M.code.length) (hmn:m.n+(2*M.funcs.length+2)*M.funcs.length+2*M.funcs.length+20≤2 ^ depth) (hN:M.code.length+2*M.funcs.length+1010≤N):
  ∃ m' v,run A N 77 [.agg (ic I M)] m=some (v,m')∧OS 1 m.n m' v ((orderR (rowsP M)).map fun z=>AV.int .i64 z) (orderR (rowsP M)).length∧Gr m m' ((2*M.funcs.length+2)*M.funcs.length+2*M.funcs.length+1):=by
 obtain ⟨n,rfl⟩:∃ n,N=n+1:=⟨N - 1,by omega⟩
 have hP:=hm.pls
 rw [run_77]
 unfold fnEv a77
 simp only [KK,Nat.reduceEqDiff,Nat.reduceAdd,Nat.reduceLT,opE_xm]
 generalize hq:codeEv (run A n) (ev A n).2 a77_L4 _=q
 obtain ⟨T1,L1,m1,a,rfl,g2,g3,g4,g5⟩:=rows_loop m I M hm hl hlf hsp (by omega) n _ _ (by omega) (by simp only [keepT,List.map,look_set,look_cons,in_int,in_nils,in_loc,Nat.reduceEqDiff,if_true,if_false,List.contains_cons,List.contains_nil,beq_self_eq_true,Bool.or_false]) (by simp only [lookL_cons,if_true]) hq
 obtain ⟨a1,a2,a3,a4⟩:=g4.plain
 have hn5:=g5.2
 have hf:m1.full=false:=not_full (by omega)
 have hmk:xmEv .mkmap [] m1=some (.map m1.n,m1.push (.map [] 0)):=by simp only [xmEv,hf,Bool.false_eq_true,if_false]
 simp only [look_set,look_nil,look_cons,Nat.reduceEqDiff,Nat.reduceLT,if_true,if_false,g2,g3,hmk]
 generalize hq2:codeEv (run A n) (ev A n).2 a77_L3 _=q2
 have hrl:(rowsP M).length=M.funcs.length:=by unfold rowsP; rw [List.length_map,List.length_range]
 obtain ⟨T2,L2,m2,v,hh,k3,k4,k5⟩:=rounds_loop m1 (m1.push (.map [] 0)) I M (hm.ext g5.1) ((Ext.refl m1).push _ (by omega)) (rowsP M) a g4 hrl (by omega) (fun l hl=>by
  obtain ⟨f,_,rfl⟩:=List.mem_map.1 hl
  have:=rcalls_len M f
  omega) m1.n rfl (Mem.get_push_new _) (by rw [push_n]; omega) n _ _ (by omega) (by simp only [keepT,List.map,look_set,look_cons,in_nils,in_loc,Nat.reduceEqDiff,if_true,if_false,List.contains_cons,List.contains_nil,beq_self_eq_true,Bool.or_false,in_map,a1]) (by simp only [lookL_cons,if_true]) hq2
 obtain ⟨v1,v2,v3,v4⟩:=k3.plain
 rw [push_n] at k5
 have hn1:=g5.1.1
 have ho:OS 1 m.n m2 v ((orderR (rowsP M)).map fun z=>AV.int .i64 z) (orderR (rowsP M)).length:=by
  rcases k3 with h | ⟨b,h0,r⟩
  ·exact .inl h
  ·exact .inr ⟨b,by omega,r⟩
 refine ⟨m2,v,?_,ho,g5.1.trans k4,by omega⟩
 rcases hh with ⟨rfl,h2⟩ | ⟨rfl,h2⟩
 ·simp only [look_set,look_nil,look_cons,Nat.reduceEqDiff,Nat.reduceLT,if_true,if_false,Bool.false_eq_true,Nat.succ_ne_self,h2,v2]
 ·simp only [if_false,Bool.false_eq_true,h2,v2]
def rcheckI (M:Img):Int:=if sizesP M=true then (if rmayP M=true then (if (orderR (rowsP M)).length < M.funcs.length then 13 else 0) else 2) else 3
theorem sizes_law {M:Img} (h:sizesP M=true):(M.funcs.length≤64∧M.code.length≤16384∧M.init.length≤4096∧M.ports.length≤32∧M.atoms.length≤64∧M.vecs.length≤32)∧∀ l∈M.atoms,l.length≤4096:=by
 unfold sizesP sizes1 at h
 rw [Bool.and_eq_true,decide_eq_true_iff,allI_iff] at h
 refine ⟨h.1,fun l hl=>?_⟩
 obtain ⟨k,hk⟩:=List.mem_iff_getElem?.1 hl
 exact of_decide_eq_true (h.2 k l hk)
theorem may_spans {M:Img} (h:rmayP M=true):∀ f,f < M.funcs.length→0≤fromP M f∧fromP M f≤toP M f∧toP M f≤M.code.length:=by
 intro f hf
 unfold rmayP at h
 simp only [Bool.and_eq_true] at h
 obtain ⟨x,hx⟩:∃ x,M.funcs[f]?=some x:=⟨_,List.getElem?_eq_getElem hf⟩
 have:=(allI_iff _ _ _).1 h.2.2.2 f x hx
 simp only [rbodyP,rfuncP,Nat.zero_add,Bool.and_eq_true,Bool.not_eq_true',decide_eq_false_iff_not] at this
 omega
theorem r4check_run (N:Nat) (m:Mem) (I:ImV) (M:Img) (hm:IM m I M) (hat:M.atoms.length≤100000) (hmn:sizesP M=true→m.n+3*M.code.length*M.funcs.length+(2*M.funcs.length+2)*M.funcs.length+2*M.funcs.length+20≤2 ^ depth) (hN:M.atoms.length+M.funcs.length+M.code.length+2*M.vecs.length+2*M.funcs.length+5300≤N):
  ∃ m',run A N 37 [.agg (ic I M)] m=some (.int .i64 (rcheckI M),m')∧Gr m m' (3*M.code.length*M.funcs.length+(2*M.funcs.length+2)*M.funcs.length+2*M.funcs.length+1):=by
 obtain ⟨n,rfl⟩:∃ n,N=n+1:=⟨N - 1,by omega⟩
 have hP:=hm.pls
 have hlo:=long_run n m I M hm hat (by omega)
 rw [run_37]
 unfold fnEv a37 rcheckI
 cases hs:sizesP M
 ·rw [hs] at hlo
  exact ⟨m,by simp only [KK,Nat.reduceEqDiff,Nat.reduceAdd,Nat.reduceLeDiff,Nat.reduceLT,hlo],(Gr.refl m).le (by omega)⟩
 rw [hs] at hlo
 have hmn:=hmn hs
 obtain ⟨⟨z1,z2,z3,z4,z5,z6⟩,z7⟩:=sizes_law hs
 obtain ⟨m1,hmay,hg1⟩:=rmay_run n m I M hm (by omega) (by omega) (by omega) (by omega) z7 (by omega) (by omega)
 cases hr:rmayP M
 ·rw [hr] at hmay
  exact ⟨m1,by simp only [KK,Nat.reduceEqDiff,Nat.reduceAdd,Nat.reduceLeDiff,Nat.reduceLT,hlo,hmay],hg1.le (by omega)⟩
 rw [hr] at hmay
 have hn1:=hg1.2
 obtain ⟨m2,v,ho,hos,hg2⟩:=rorder_run n m1 I M (hm.ext hg1.1) (by omega) (by omega) (may_spans hr) (by omega) (by omega)
 obtain ⟨v1,v2,v3,v4⟩:=hos.plain
 have lo:∀ s,AG.lenR v s=some (.int .i64 (orderR (rowsP M)).length,s):=hos.ints.lenR
 have hlog:logOk [Acc.eff m1 m2,Acc.rw (.loc 1 1) 1 false]=true:=by rfl
 refine ⟨m2,?_,(hg1.trans hg2).le (by omega)⟩
 by_cases hlt:(orderR (rowsP M)).length < M.funcs.length
 ·have hlt':((orderR (rowsP M)).length:Int) < (M.funcs.length:Int):=by omega
  simp only [KK,Nat.reduceEqDiff,Nat.reduceAdd,Nat.reduceLeDiff,Nat.reduceLT,AOp.kd,kd_rm,hP,hlo,hmay,ho,lo,hlog,hlt,hlt']
 ·have hlt':¬((orderR (rowsP M)).length:Int) < (M.funcs.length:Int):=by omega
  simp only [KK,Nat.reduceEqDiff,Nat.reduceAdd,Nat.reduceLeDiff,Nat.reduceLT,AOp.kd,kd_rm,hP,hlo,hmay,ho,lo,hlog,hlt,hlt']
theorem plain_lt {M:Img} {f:Int} (h:plainF M f=true):f < (M.funcs.length:Int):=by
 unfold plainF at h
 rw [Bool.and_eq_true,decide_eq_true_iff] at h
 obtain ⟨h0,h1⟩:=h
 cases hx:M.funcs[f.toNat]? with
 | none=>rw [hx] at h1; simp at h1
 | some x=>
  have:=(List.getElem?_eq_some_iff.1 hx).1
  omega
theorem allI_and {α:Type} (P Q:Nat→α→Bool) (l:List α):allI (fun i x=>P i x&&Q i x) l 0=(allI P l 0&&allI Q l 0):=by
 rw [Bool.eq_iff_iff,Bool.and_eq_true,allI_iff,allI_iff,allI_iff]
 constructor
 ·intro h
  exact ⟨fun j x hx=>(Bool.and_eq_true _ _▸h j x hx).1,fun j x hx=>(Bool.and_eq_true _ _▸h j x hx).2⟩
 ·intro ⟨h1,h2⟩ j x hx
  rw [h1 j x hx,h2 j x hx]
  rfl
theorem vec_eq (M:Img):rvecP M=vecP M:=by
 funext i x
 unfold rvecP vecP
 cases h:plainF M x.fn
 ·simp
 ·have:=plain_lt h
  have hd:decide ((M.funcs.length:Int)≤x.fn)=false:=decide_eq_false (by omega)
  rw [hd]
  simp
theorem may_eq (M:Img):rmayP M=(funcsP M&&(vecsP M&&(codesP M&&atomsP M))):=by
 have e1:allI (rbodyP M) M.funcs 0=(allI (rfuncP M) M.funcs 0&&allI (bodyP M) M.funcs 0):=allI_and (rfuncP M) (bodyP M) M.funcs
 have e2:(decide (fromP M 0=0)&&allI (rfuncP M) M.funcs 0)=allI (funcP M) M.funcs 0∨M.funcs=[]:=by
  by_cases hn:M.funcs=[]
  ·exact .inr hn
  refine .inl ?_
  rw [Bool.eq_iff_iff,Bool.and_eq_true,decide_eq_true_iff,allI_iff,allI_iff]
  constructor
  ·intro ⟨h1,h2⟩ j x hx
   have:=h2 j x hx
   unfold rfuncP at this
   unfold funcP
   rw [Bool.and_eq_true]
   refine ⟨?_,this⟩
   by_cases hj:j=0
   ·subst hj
    simp [h1]
   ·have:decide (((0+j:Nat):Int)=0)=false:=decide_eq_false (by omega)
    rw [this]
    rfl
  ·intro h
   obtain ⟨x,hx⟩:∃ x,M.funcs[0]?=some x:=⟨_,List.getElem?_eq_getElem (by cases hh:M.funcs with | nil=>exact absurd hh hn | cons a r=>simp)⟩
   refine ⟨?_,fun j x hx=>?_⟩
   ·have:=h 0 x hx
    unfold funcP at this
    rw [Bool.and_eq_true] at this
    simpa using this.1
   ·have:=h j x hx
    unfold funcP at this
    rw [Bool.and_eq_true] at this
    exact this.2
 have e3:allI (ratomP M) M.atoms 0=atomsP M:=rfl
 unfold rmayP rmay1 funcsP funcs1 vecsP codesP
 rw [e1,e3,vec_eq]
 rcases e2 with e2 | e2
 ·rw [←e2]
  cases decide ((M.funcs.length:Int)=0) <;> cases decide (M.stack < 1) <;> cases decide (65536 < M.stack) <;> cases decide (fromP M 0=0) <;> cases plainF M M.main <;> cases decide (checkV M.vecs=0) <;> cases allI (vecP M) M.vecs 0 <;> cases atomsP M <;> cases allI (rfuncP M) M.funcs 0 <;> cases allI (bodyP M) M.funcs 0 <;> rfl
 ·have:decide ((M.funcs.length:Int)=0)=true:=by rw [e2]; rfl
  rw [this]
  rfl
theorem nextR_neg (all:List (List Int)) (out:List Int):∀ (l:List Nat) (nx:Int),nextR all out l nx < 0→nx < 0∧∀ f∈l,isRdy all out f=false
 | [],nx,h=>⟨h,fun f hf=>by cases hf⟩
 | f::r,nx,h=>by
  rw [nextR] at h
  obtain ⟨h1,h2⟩:=nextR_neg all out r _ h
  by_cases hr:isRdy all out f=true
  ·rw [if_pos hr] at h1
   omega
  ·rw [if_neg hr] at h1
   refine ⟨h1,fun g hg=>?_⟩
   rcases List.mem_cons.1 hg with rfl | hg
   ·simpa using hr
   ·exact h2 g hg
theorem nextOf_rdy {all:List (List Int)} {out:List Int} (h:¬nextOf all out < 0):∃ f:Nat,nextOf all out=(f:Int)∧f < all.length∧isRdy all out f=true:=by
 rcases nextR_law all out (List.range all.length).reverse (-1) with h1 | ⟨f,hf,h1,h2⟩
 ·unfold nextOf at h
  rw [h1] at h
  omega
 ·exact ⟨f,h1,by simpa using hf,h2⟩
structure Topo (all:List (List Int)) (out:List Int):Prop where
 nd:out.Nodup
 up:∀ (i:Nat) (g:Int),out[i]?=some g→∃ f:Nat,g=(f:Int)∧f < all.length∧∀ x∈(all[f]?).getD [],x∈out.take i
theorem Topo.add {all:List (List Int)} {out:List Int} (h:Topo all out) (hn:¬nextOf all out < 0):Topo all (out++[nextOf all out]):=by
 obtain ⟨f,e,hf,hr⟩:=nextOf_rdy hn
 unfold isRdy at hr
 rw [Bool.and_eq_true,List.all_eq_true] at hr
 rw [e]
 refine ⟨?_,fun i g hg=>?_⟩
 ·rw [List.nodup_append]
  refine ⟨h.nd,by simp,fun a ha b hb=>?_⟩
  rw [List.mem_singleton] at hb
  subst hb
  intro hab
  subst hab
  have:=hr.1
  simp [ha] at this
 ·by_cases hi:i < out.length
  ·rw [List.getElem?_append_left hi] at hg
   obtain ⟨f',e',hf',hx⟩:=h.up i g hg
   exact ⟨f',e',hf',fun x hxm=>by rw [List.take_append_of_le_length (by omega)]; exact hx x hxm⟩
  ·have hi2:i=out.length:=by
    have:=(List.getElem?_eq_some_iff.1 hg).1
    rw [List.length_append,List.length_singleton] at this
    omega
   subst hi2
   rw [List.getElem?_append_right (Nat.le_refl _),Nat.sub_self] at hg
   cases hg
   refine ⟨f,rfl,hf,fun x hx=>?_⟩
   rw [List.take_append_of_le_length (Nat.le_refl _),List.take_length]
   have:=hr.2 x hx
   simpa using this
theorem kahn_fold (all:List (List Int)):∀ (l:List Nat) (i:Nat) (out:List Int),Topo all out→match foldS (kahnS all) l i out with
  | .inl o=>Topo all o∧o.length=out.length+l.length
  | .inr o=>Topo all o∧nextOf all o < 0
 | [],i,out,h=>by simp [foldS,h]
 | g::r,i,out,h=>by
  simp only [foldS,kahnS]
  by_cases hn:nextOf all out < 0
  ·simp only [hn,if_true]
   exact ⟨h,trivial⟩
  ·simp only [hn,if_false]
   have:=kahn_fold all r (i+1) _ (h.add hn)
   cases hf:foldS (kahnS all) r (i+1) (out++[nextOf all out]) with
   | inl o=>
    rw [hf] at this
    simp only [List.length_append,List.length_cons,List.length_nil] at this ⊢
    exact ⟨this.1,by omega⟩
   | inr o=>
    rw [hf] at this
    exact this
theorem orderR_law (all:List (List Int)):Topo all (orderR all)∧((orderR all).length=all.length∨∀ f,f < all.length→isRdy all (orderR all) f=false):=by
 have h:=kahn_fold all (List.range all.length) 0 [] ⟨List.nodup_nil,fun i g hg=>by simp at hg⟩
 unfold orderR
 cases hf:foldS (kahnS all) (List.range all.length) 0 [] with
 | inl o=>
  rw [hf] at h
  simp only [List.length_nil,List.length_range,Nat.zero_add] at h
  exact ⟨h.1,.inl h.2⟩
 | inr o=>
  rw [hf] at h
  refine ⟨h.1,.inr fun f hf=>(nextR_neg all o _ _ h.2).2 f (by simpa using hf)⟩
inductive NoC (cs:Nat→List Int):Nat→Prop
 | mk (f:Nat) (h:∀ g∈cs f,NoC cs g.toNat):NoC cs f
inductive Rch (cs:Nat→List Int):Nat→Nat→Prop
 | one (f:Nat) (g:Int) (h:g∈cs f):Rch cs f g.toNat
 | cons (f:Nat) (g:Int) (x:Nat) (h:g∈cs f) (r:Rch cs g.toNat x):Rch cs f x
theorem Rch.snoc {cs:Nat→List Int} {a b:Nat} (h:Rch cs a b):∀ g∈cs b,Rch cs a g.toNat:=by
 induction h with
 | one f g hg=>exact fun x hx=>.cons f g _ hg (.one _ x hx)
 | cons f g x hg _ ih=>exact fun y hy=>.cons f g _ hg (ih y hy)
theorem Rch.head {cs:Nat→List Int} {a b:Nat} (h:Rch cs a b):∃ g∈cs a,g.toNat=b∨Rch cs g.toNat b:=by
 cases h with
 | one _ g hg=>exact ⟨g,hg,.inl rfl⟩
 | cons _ g _ hg r=>exact ⟨g,hg,.inr r⟩
theorem NoC.irr {cs:Nat→List Int} {f:Nat} (h:NoC cs f):¬Rch cs f f:=by
 induction h with
 | mk f _ ih=>
  intro hr
  obtain ⟨g,hg,h1 | h1⟩:=hr.head
  ·have:=ih g hg
   rw [h1] at this
   exact this hr
  ·exact ih g hg (h1.snoc g hg)
structure Wd (cs:Nat→List Int) (s s':List Nat):Prop where
 len:s'.length=s.length
 grey:∀ x:Nat,s'[x]?=some 1↔s[x]?=some 1
 blk:∀ x c:Nat,s[x]?=some (c+2)→∃ c',s'[x]?=some (c'+2)
 ok:(∀ x c:Nat,s[x]?=some (c+2)→NoC cs x)→∀ x c:Nat,s'[x]?=some (c+2)→NoC cs x
theorem Wd.refl (cs:Nat→List Int) (s:List Nat):Wd cs s s:=⟨rfl,fun _=>Iff.rfl,fun _ c h=>⟨c,h⟩,id⟩
theorem Wd.trans {cs:Nat→List Int} {a b c:List Nat} (h:Wd cs a b) (k:Wd cs b c):Wd cs a c:=
 ⟨k.len.trans h.len,fun x=>(k.grey x).trans (h.grey x),fun x z hz=>by obtain ⟨z',hz'⟩:=h.blk x z hz; exact k.blk x z' hz',fun hh=>k.ok (h.ok hh)⟩
theorem goW_true (cs:Nat→List Int) (n:Nat) (rec:Nat→List Nat→Option (Bool×List Nat)) (hrec:∀ f s s',f < n→n≤s.length→s[f]?=some 0→rec f s=some (true,s')→Wd cs s s'∧∃ c,s'[f]?=some (c+2)):
  ∀ (l:List Int) (s s':List Nat),(∀ g∈l,0≤g∧g < (n:Int))→n≤s.length→goW rec l s=some (true,s')→Wd cs s s'∧∀ g∈l,∃ c,s'[g.toNat]?=some (c+2)
 | [],s,s',_,_,h=>by
  simp only [goW,Option.some.injEq,Prod.mk.injEq,true_and] at h
  subst h
  exact ⟨Wd.refl cs s,fun g hg=>by cases hg⟩
 | g::r,s,s',hl,hn,h=>by
  have hg:=hl g (by simp)
  have hr:=fun x hx=>hl x (List.mem_cons_of_mem _ hx)
  obtain ⟨c,hc⟩:∃ c,s[g.toNat]?=some c:=⟨_,List.getElem?_eq_getElem (by omega)⟩
  rw [goW,hc] at h
  match c,hc,h with
  | 0,hc,h=>
   try dsimp only at h
   cases hq:rec g.toNat s with
   | none=>rw [hq] at h; cases h
   | some p=>
    obtain ⟨b,s1⟩:=p
    rw [hq] at h
    cases b
    ·cases h
    ·dsimp only at h
     obtain ⟨w1,z,hz⟩:=hrec g.toNat s s1 (by omega) hn hc hq
     obtain ⟨w2,hall⟩:=goW_true cs n rec hrec r s1 s' hr (by rw [w1.len]; exact hn) h
     refine ⟨w1.trans w2,fun x hx=>?_⟩
     rcases List.mem_cons.1 hx with rfl | hx
     ·exact w2.blk _ z hz
     ·exact hall x hx
  | 1,hc,h=>cases h
  | c+2,hc,h=>
   try dsimp only at h
   obtain ⟨w2,hall⟩:=goW_true cs n rec hrec r s s' hr hn h
   refine ⟨w2,fun x hx=>?_⟩
   rcases List.mem_cons.1 hx with rfl | hx
   ·exact w2.blk _ c hc
   ·exact hall x hx
theorem dfs_true (cs:Nat→List Int) (n:Nat) (hin:∀ f,f < n→∀ g∈cs f,0≤g∧g < (n:Int)):∀ (k f:Nat) (s s':List Nat),f < n→n≤s.length→s[f]?=some 0→dfsW cs k f s=some (true,s')→Wd cs s s'∧∃ c,s'[f]?=some (c+2)
 | 0,f,s,s',_,_,_,h=>by cases h
 | k+1,f,s,s',hf,hn,h0,h=>by
  rw [dfsW] at h
  cases hq:goW (dfsW cs k) (cs f) (s.set f 1) with
  | none=>rw [hq] at h; cases h
  | some p=>
   obtain ⟨b,s1⟩:=p
   rw [hq] at h
   cases b
   ·cases h
   ·simp only [Option.some.injEq,Prod.mk.injEq,true_and] at h
    subst h
    obtain ⟨w,hall⟩:=goW_true cs n (dfsW cs k) (dfs_true cs n hin k) (cs f) (s.set f 1) s1 (hin f hf) (by rw [List.length_set]; exact hn) hq
    have hfl:f < s.length:=by omega
    have hfl1:f < s1.length:=by rw [w.len,List.length_set]; exact hfl
    have hset:∀ x,f≠x→(s1.set f 2)[x]?=s1[x]?:=fun x hx=>List.getElem?_set_ne hx
    have hset1:∀ x,f≠x→(s.set f 1)[x]?=s[x]?:=fun x hx=>List.getElem?_set_ne hx
    have hff:(s1.set f 2)[f]?=some 2:=by rw [List.getElem?_set_self hfl1]
    refine ⟨⟨by rw [List.length_set,w.len,List.length_set],fun x=>?_,fun x c hc=>?_,fun hh x c hc=>?_⟩,0,hff⟩
    ·by_cases hx:f=x
     ·subst hx
      rw [hff,h0]
      simp
     ·rw [hset x hx,w.grey x,hset1 x hx]
    ·have hx:f≠x:=by rintro rfl; rw [h0] at hc; simp at hc
     rw [hset x hx]
     exact w.blk x c (by rw [hset1 x hx]; exact hc)
    ·have hb:=w.ok (fun y d hd=>by
      by_cases hy:f=y
      ·subst hy
       rw [List.getElem?_set_self hfl] at hd
       simp at hd
      ·rw [hset1 y hy] at hd
       exact hh y d hd)
     by_cases hx:f=x
     ·subst hx
      refine .mk f fun g hg=>?_
      obtain ⟨d,hd⟩:=hall g hg
      exact hb _ d hd
     ·rw [hset x hx] at hc
      exact hb x c hc
theorem goW_fine (cs:Nat→List Int) (n:Nat) (rec:Nat→List Nat→Option (Bool×List Nat)) (hrec:∀ f s s',f < n→n≤s.length→s[f]?=some 0→rec f s=some (true,s')→Wd cs s s'∧∃ c,s'[f]?=some (c+2))
  (hfine:∀ f s ok s',f < n→n≤s.length→s[f]?=some 0→NoC cs f→(∀ x,Rch cs f x→s[x]?≠some 1)→rec f s=some (ok,s')→ok=true):
  ∀ (l:List Int) (s s':List Nat) (ok:Bool),(∀ g∈l,0≤g∧g < (n:Int))→n≤s.length→(∀ g∈l,NoC cs g.toNat∧s[g.toNat]?≠some 1∧∀ x,Rch cs g.toNat x→s[x]?≠some 1)→goW rec l s=some (ok,s')→ok=true
 | [],s,s',ok,_,_,_,h=>by
  simp only [goW,Option.some.injEq,Prod.mk.injEq] at h
  exact h.1.symm
 | g::r,s,s',ok,hl,hn,hN,h=>by
  have hg:=hl g (by simp)
  have hr:=fun x hx=>hl x (List.mem_cons_of_mem _ hx)
  obtain ⟨n1,n2,n3⟩:=hN g (by simp)
  have hNr:=fun x hx=>hN x (List.mem_cons_of_mem _ hx)
  obtain ⟨c,hc⟩:∃ c,s[g.toNat]?=some c:=⟨_,List.getElem?_eq_getElem (by omega)⟩
  rw [goW,hc] at h
  match c,hc,h with
  | 0,hc,h=>
   try dsimp only at h
   cases hq:rec g.toNat s with
   | none=>rw [hq] at h; cases h
   | some p=>
    obtain ⟨b,s1⟩:=p
    have hb:=hfine g.toNat s b s1 (by omega) hn hc n1 n3 hq
    subst hb
    rw [hq] at h
    try dsimp only at h
    obtain ⟨w1,_⟩:=hrec g.toNat s s1 (by omega) hn hc hq
    exact goW_fine cs n rec hrec hfine r s1 s' ok hr (by rw [w1.len]; exact hn) (fun x hx=>by
     obtain ⟨a1,a2,a3⟩:=hNr x hx
     exact ⟨a1,fun e=>a2 ((w1.grey _).1 e),fun y hy e=>a3 y hy ((w1.grey _).1 e)⟩) h
  | 1,hc,h=>exact absurd hc n2
  | c+2,hc,h=>
   try dsimp only at h
   exact goW_fine cs n rec hrec hfine r s s' ok hr hn hNr h
theorem dfs_fine (cs:Nat→List Int) (n:Nat) (hin:∀ f,f < n→∀ g∈cs f,0≤g∧g < (n:Int)):∀ (k f:Nat) (s:List Nat) (ok:Bool) (s':List Nat),f < n→n≤s.length→s[f]?=some 0→NoC cs f→(∀ x,Rch cs f x→s[x]?≠some 1)→dfsW cs k f s=some (ok,s')→ok=true
 | 0,f,s,ok,s',_,_,_,_,_,h=>by cases h
 | k+1,f,s,ok,s',hf,hn,h0,hno,hrch,h=>by
  rw [dfsW] at h
  cases hq:goW (dfsW cs k) (cs f) (s.set f 1) with
  | none=>rw [hq] at h; cases h
  | some p=>
   obtain ⟨b,s1⟩:=p
   have hset1:∀ x,f≠x→(s.set f 1)[x]?=s[x]?:=fun x hx=>List.getElem?_set_ne hx
   have hb:=goW_fine cs n (dfsW cs k) (dfs_true cs n hin k) (fun a b c d e1 e2 e3 e4 e5 e6=>dfs_fine cs n hin k a b c d e1 e2 e3 e4 e5 e6) (cs f) (s.set f 1) s1 b (hin f hf) (by rw [List.length_set]; exact hn) (fun g hg=>by
    have hne:f≠g.toNat:=fun e=>hno.irr (by have:=Rch.one (cs:=cs) f g hg; rw [←e] at this; exact this)
    refine ⟨?_,?_,fun x hx=>?_⟩
    ·cases hno with | mk _ h=>exact h g hg
    ·rw [hset1 _ hne]; exact hrch _ (.one f g hg)
    ·have hne2:f≠x:=fun e=>hno.irr (by subst e; exact .cons f g _ hg hx)
     rw [hset1 _ hne2]; exact hrch _ (.cons f g _ hg hx)) hq
   subst hb
   rw [hq] at h
   simp only [Option.some.injEq,Prod.mk.injEq] at h
   exact h.1.symm
theorem dfs_some (cs:Nat→List Int) (n:Nat) (h64:n≤64) (hin:∀ f,f < n→∀ g∈cs f,0≤g∧g < (n:Int)):∀ (k f:Nat) (s:List Nat),s.length=64→f < n→s[f]?=some 0→whites s≤k→∃ ok s',dfsW cs k f s=some (ok,s')∧s'.length=64∧whites s'≤whites s
 | 0,f,s,hs,hf,h0,hW=>by
  have:=whites_set s f 1 h0 (by omega)
  omega
 | k+1,f,s,hs,hf,h0,hW=>by
  have w1:=whites_set s f 1 h0 (by omega)
  obtain ⟨ok,s',q1,q2,q3⟩:=goW_some (dfsW cs k) k n h64 (fun f s a b c d=>dfs_some cs n h64 hin k f s a b c d) (cs f) (s.set f 1) (hin f hf) (by rw [List.length_set]; exact hs) (by omega)
  refine ⟨ok,if ok=true then s'.set f 2 else s',?_,?_,?_⟩
  ·rw [dfsW,q1]
   cases ok <;> rfl
  ·split
   ·rw [List.length_set]; exact q2
   ·exact q2
  ·split
   ·have:=whites_set2 s' f 2 (by omega)
    omega
   ·omega
theorem circ_fold (cs:Nat→List Int) (n:Nat) (h64:n≤64) (hin:∀ f,f < n→∀ g∈cs f,0≤g∧g < (n:Int)):∀ (l:List FF) (i:Nat) (s:List Nat),i+l.length=n→s.length=64→(∀ x:Nat,s[x]?≠some 1)→(∀ x c:Nat,s[x]?=some (c+2)→NoC cs x)→((∃ s',foldS (circS cs) l i s=.inl s')↔∀ f,i≤f→f < n→NoC cs f)
 | [],i,s,hi,hs,_,_=>⟨fun _ f h1 h2=>by simp only [List.length_nil] at hi; omega,fun _=>⟨s,rfl⟩⟩
 | x::r,i,s,hi,hs,hg,hb=>by
  simp only [List.length_cons] at hi
  obtain ⟨c,hc⟩:∃ c,s[i]?=some c:=⟨_,List.getElem?_eq_getElem (by omega)⟩
  match c,hc with
  | 0,hc=>
   obtain ⟨ok,s',e,e2,_⟩:=dfs_some cs n h64 hin 64 i s hs (by omega) hc (by have:=whites_le s; omega)
   cases ok
   ·have hst:circS cs i x s=.ret ():=by simp only [circS,hc,e]
    simp only [foldS,hst]
    refine ⟨fun ⟨_,h⟩=>(by cases h),fun h=>?_⟩
    have:=dfs_fine cs n hin 64 i s false s' (by omega) (by omega) hc (h i (Nat.le_refl _) (by omega)) (fun y _=>hg y) e
    cases this
   ·have hst:circS cs i x s=.go s':=by simp only [circS,hc,e]
    simp only [foldS,hst]
    obtain ⟨w,d,hd⟩:=dfs_true cs n hin 64 i s s' (by omega) (by omega) hc e
    have hb':=w.ok hb
    rw [circ_fold cs n h64 hin r (i+1) s' (by omega) e2 (fun y hy=>hg y ((w.grey y).1 hy)) hb']
    refine ⟨fun h f h1 h2=>?_,fun h f h1 h2=>h f (by omega) h2⟩
    by_cases hfi:f=i
    ·subst hfi; exact hb' f d hd
    ·exact h f (by omega) h2
  | 1,hc=>exact absurd hc (hg i)
  | c+2,hc=>
   have hst:circS cs i x s=.go s:=by simp only [circS,hc]
   simp only [foldS,hst]
   rw [circ_fold cs n h64 hin r (i+1) s (by omega) hs hg hb]
   refine ⟨fun h f h1 h2=>?_,fun h f h1 h2=>h f (by omega) h2⟩
   by_cases hfi:f=i
   ·subst hfi; exact hb f c hc
   ·exact h f (by omega) h2
theorem circles_iff {M:Img} (h64:M.funcs.length≤64) (hin:CallsIn M):circlesP M=true↔∀ f,f < M.funcs.length→NoC (callsP M) f:=by
 have h:=circ_fold (callsP M) M.funcs.length h64 hin M.funcs 0 (List.replicate 64 0) (by omega) (by simp) (fun x hx=>by
   rw [List.getElem?_replicate] at hx
   split at hx <;> simp at hx) (fun x c hx=>by
   rw [List.getElem?_replicate] at hx
   split at hx <;> simp at hx)
 unfold circlesP
 constructor
 ·intro hc f hf
  refine h.1 ?_ f (Nat.zero_le _) hf
  cases hq:foldS (circS (callsP M)) M.funcs 0 (List.replicate 64 0) with
  | inl s=>exact ⟨s,rfl⟩
  | inr s=>rw [hq] at hc; cases hc
 ·intro hn
  obtain ⟨s,hs⟩:=h.2 (fun f _ hf=>hn f hf)
  rw [hs]
theorem kahn_iff (cs:Nat→List Int) (all:List (List Int)) (hcs:∀ f,f < all.length→(all[f]?).getD []=cs f) (hin:∀ f,f < all.length→∀ g∈cs f,0≤g∧g < (all.length:Int)):(∀ f,f < all.length→NoC cs f)↔¬(orderR all).length < all.length:=by
 obtain ⟨ht,hw⟩:=orderR_law all
 generalize orderR all=out at*
 have hsub:out ⊆ (List.range all.length).map fun (f:Nat)=>(f:Int):=fun g hg=>by
  obtain ⟨i,hi⟩:=List.mem_iff_getElem?.1 hg
  obtain ⟨f,e,hf,_⟩:=ht.up i g hi
  exact List.mem_map.2 ⟨f,List.mem_range.2 hf,e.symm⟩
 constructor
 ·intro h hlt
  rcases hw with hw | hw
  ·omega
  have hall:∀ f,NoC cs f→f < all.length→(f:Int)∈out:=by
   intro f hn
   induction hn with
   | mk f _ ih=>
    intro hf
    have hr:=hw f hf
    unfold isRdy at hr
    rw [hcs f hf,Bool.and_eq_false_iff] at hr
    rcases hr with hr | hr
    ·simpa using hr
    ·exfalso
     have:((cs f).all fun x=>out.contains x)=true:=by
      rw [List.all_eq_true]
      intro g hg
      have hgi:=hin f hf g hg
      have:=ih g hg (by omega)
      rw [Int.toNat_of_nonneg hgi.1] at this
      simpa using this
     rw [this] at hr
     cases hr
  have hnd:((List.range all.length).map fun (f:Nat)=>(f:Int)).Nodup:=by
   rw [List.nodup_iff_pairwise_ne,List.pairwise_map]
   exact List.Pairwise.imp (fun h e=>absurd (Int.ofNat_inj.1 e) (Nat.ne_of_lt h)) List.pairwise_lt_range
  have:=List.Nodup.length_le_of_subset hnd (l₂:=out) (fun g hg=>by
   obtain ⟨f,hf,rfl⟩:=List.mem_map.1 hg
   exact hall f (h f (List.mem_range.1 hf)) (List.mem_range.1 hf))
  rw [List.length_map,List.length_range] at this
  omega
 ·intro hge f hf
  have hmem:∀ f,f < all.length→(f:Int)∈out:=by
   intro f hf
   apply Classical.byContradiction
   intro hno
   have:=List.Nodup.length_le_of_subset (List.nodup_cons.2 ⟨hno,ht.nd⟩) (l₂:=(List.range all.length).map fun (f:Nat)=>(f:Int)) (fun g hg=>by
    rcases List.mem_cons.1 hg with rfl | hg
    ·exact List.mem_map.2 ⟨f,List.mem_range.2 hf,rfl⟩
    ·exact hsub hg)
   rw [List.length_cons,List.length_map,List.length_range] at this
   omega
  have hind:∀ (i f:Nat),out[i]?=some (f:Int)→NoC cs f:=by
   intro i
   induction i using Nat.strongRecOn with
   | ind i ih=>
    intro f hi
    obtain ⟨f',e,hf',hx⟩:=ht.up i _ hi
    have e':=Int.ofNat_inj.1 e
    subst e'
    refine .mk f fun g hg=>?_
    rw [hcs f hf'] at hx
    have hgi:=hin f hf' g hg
    obtain ⟨j,hj⟩:=List.mem_iff_getElem?.1 (hx g hg)
    rw [List.getElem?_take] at hj
    split at hj
    ·exact ih j (by assumption) g.toNat (by rw [hj,Int.toNat_of_nonneg hgi.1])
    ·cases hj
  obtain ⟨i,hi⟩:=List.mem_iff_getElem?.1 (hmem f hf)
  exact hind i f hi
theorem rise_eq {a b:List Int} (ha:a.Pairwise (· < ·)) (hb:b.Pairwise (· < ·)) (h:∀ x,x∈a↔x∈b):a=b:=by
 have na:a.Nodup:=List.Pairwise.imp (fun h e=>by omega) ha
 have nb:b.Nodup:=List.Pairwise.imp (fun h e=>by omega) hb
 exact List.Perm.eq_of_pairwise (le:=(· < ·)) (fun x y _ _ h1 h2=>by omega) ha hb ((List.perm_ext_iff_of_nodup na nb).2 h)
theorem mem_compact2 {zs:List Int} {g:Int} (h:g∈zs):g∈Lib.compact zs:=by
 obtain ⟨i,hi⟩:=List.mem_iff_getElem?.1 h
 have:∀ i:Nat,zs[i]?=some g→g∈Lib.compact zs:=by
  intro i
  induction i with
  | zero=>
   intro hi
   have hl:=(List.getElem?_eq_some_iff.1 hi).1
   unfold Lib.compact Lib.compactUpTo
   refine List.mem_map.2 ⟨0,List.mem_filter.2 ⟨List.mem_range.2 hl,by simp [Lib.keeps]⟩,?_⟩
   rw [getElem!_pos zs.toArray 0 (by simpa using hl)]
   simpa using (List.getElem?_eq_some_iff.1 hi).2
  | succ i ih=>
   intro hi
   obtain ⟨hl,he⟩:=List.getElem?_eq_some_iff.1 hi
   by_cases hk:zs[i]'(by omega)=g
   ·exact ih (by rw [List.getElem?_eq_getElem (by omega),hk])
   ·unfold Lib.compact Lib.compactUpTo
    refine List.mem_map.2 ⟨i+1,List.mem_filter.2 ⟨List.mem_range.2 hl,?_⟩,?_⟩
    ·unfold Lib.keeps
     rw [decide_eq_true_eq]
     refine .inr ?_
     rw [getElem!_pos zs.toArray (i+1) (by simpa using hl),getElem!_pos zs.toArray (i+1 - 1) (by simp; omega)]
     simp only [List.getElem_toArray,Nat.add_sub_cancel]
     rw [he]
     exact fun e=>hk e.symm
    ·rw [getElem!_pos zs.toArray (i+1) (by simpa using hl)]
     simpa using he
 exact this i hi
theorem compact_rise {zs:List Int} (h:zs.Pairwise (·≤·)):(Lib.compact zs).Pairwise (· < ·):=by
 unfold Lib.compact Lib.compactUpTo
 rw [List.pairwise_map,List.pairwise_filter]
 have hle:∀ (i j:Nat) (hij:i≤j) (hj:j < zs.length),zs[i]'(by omega)≤zs[j]'hj:=by
  intro i j hij hj
  by_cases e:i=j
  ·subst e; omega
  ·exact List.pairwise_iff_getElem.1 h i j (by omega) hj (by omega)
 rw [List.pairwise_iff_getElem]
 intro i j hi hj hij _ hkj
 simp only [List.length_range] at hi hj
 simp only [List.getElem_range] at hkj ⊢
 unfold Lib.keeps at hkj
 rw [decide_eq_true_eq] at hkj
 rcases hkj with hkj | hkj
 ·omega
 ·rw [getElem!_pos zs.toArray j (by simpa using hj),getElem!_pos zs.toArray (j - 1) (by simp; omega)] at hkj
  rw [getElem!_pos zs.toArray i (by simpa using hi),getElem!_pos zs.toArray j (by simpa using hj)]
  simp only [List.getElem_toArray] at hkj ⊢
  have h1:=hle i (j - 1) (by omega) (by omega)
  have h2:=hle (j - 1) j (by omega) hj
  omega
theorem sortZ_rise (zs:List Int):(sortZ zs).Pairwise (·≤·):=by
 have:=List.pairwise_mergeSort (le:=fun (x y:Int)=>decide (x≤y)) (fun a b c h1 h2=>by simp only [decide_eq_true_eq] at *; omega) (fun a b=>by simp only [Bool.or_eq_true,decide_eq_true_eq]; omega) zs
 unfold sortZ
 exact List.Pairwise.imp (fun h=>by simpa using h) this
theorem calls_eq {M:Img} (hin:CallsIn M) (f:Nat) (hf:f < M.funcs.length):rcallsP M f=callsP M f:=by
 apply rise_eq
 ·unfold rcallsP refG
  rw [List.pairwise_map]
  exact List.Pairwise.filter _ (List.Pairwise.imp (fun h=>by omega) List.pairwise_lt_range)
 ·exact compact_rise (sortZ_rise _)
 ·intro g
  have hm:g∈callsP M f↔∃ x∈segP M f,x.op=17∧x.a=g:=by
   unfold callsP
   constructor
   ·intro h
    have:=mem_compact h
    unfold sortZ at this
    rw [List.mem_mergeSort] at this
    unfold callsI at this
    obtain ⟨x,hx,rfl⟩:=List.mem_map.1 this
    obtain ⟨h1,h2⟩:=List.mem_filter.1 hx
    exact ⟨x,h1,of_decide_eq_true h2,rfl⟩
   ·rintro ⟨x,h1,h2,rfl⟩
    apply mem_compact2
    unfold sortZ
    rw [List.mem_mergeSort]
    exact List.mem_map.2 ⟨x,List.mem_filter.2 ⟨h1,decide_eq_true h2⟩,rfl⟩
  rw [hm]
  unfold rcallsP refG
  constructor
  ·intro h
   obtain ⟨k,hk,rfl⟩:=List.mem_map.1 h
   obtain ⟨_,h2⟩:=List.mem_filter.1 hk
   obtain ⟨x,hx,h3⟩:=List.any_eq_true.1 h2
   unfold isCall at h3
   simp only [Bool.and_eq_true,decide_eq_true_eq] at h3
   exact ⟨x,hx,h3.1,h3.2⟩
  ·rintro ⟨x,hx,h1,h2⟩
   have hg:=hin f hf g (hm.2 ⟨x,hx,h1,h2⟩)
   refine List.mem_map.2 ⟨g.toNat,List.mem_filter.2 ⟨List.mem_range.2 (by omega),?_⟩,by omega⟩
   refine List.any_eq_true.2 ⟨x,hx,?_⟩
   unfold isCall
   simp only [Bool.and_eq_true,decide_eq_true_eq]
   exact ⟨h1,by omega⟩
theorem check_eq (M:Img):rcheckI M=checkI M:=by
 unfold rcheckI checkI
 cases hs:sizesP M
 ·rfl
 obtain ⟨⟨h64,_⟩,_⟩:=sizes_law hs
 rw [may_eq]
 cases h1:funcsP M
 ·rfl
 cases h2:vecsP M
 ·rfl
 cases h3:codesP M
 ·rfl
 cases h4:atomsP M
 ·rfl
 have hin:=calls_in h3
 have hl:(rowsP M).length=M.funcs.length:=by unfold rowsP; rw [List.length_map,List.length_range]
 have hk:=kahn_iff (callsP M) (rowsP M) (fun f hf=>by
   rw [hl] at hf
   unfold rowsP
   rw [List.getElem?_map,List.getElem?_range hf]
   exact calls_eq hin f hf) (fun f hf g hg=>by rw [hl] at hf ⊢; exact hin f hf g hg)
 rw [hl] at hk
 have hc:=circles_iff h64 hin
 rw [hk] at hc
 cases hci:circlesP M
 ·rw [hci] at hc
  have:(orderR (rowsP M)).length < M.funcs.length:=by
   apply Classical.byContradiction
   intro h
   have:=hc.2 h
   cases this
  simp only [Bool.and_self,if_true,this,Bool.false_eq_true,if_false]
 ·have:=hc.1 hci
  simp only [Bool.and_self,if_true,this,if_false]
theorem check_zero {M:Img} (h:checkI M=0):sizesP M=true∧funcsP M=true∧vecsP M=true∧codesP M=true∧atomsP M=true∧circlesP M=true:=by
 unfold checkI at h
 cases h0:sizesP M
 ·rw [h0] at h; simp at h
 cases h1:funcsP M
 ·rw [h0,h1] at h; simp at h
 cases h2:vecsP M
 ·rw [h0,h1,h2] at h; simp at h
 cases h3:codesP M
 ·rw [h0,h1,h2,h3] at h; simp at h
 cases h4:atomsP M
 ·rw [h0,h1,h2,h3,h4] at h; simp at h
 cases h5:circlesP M
 ·rw [h0,h1,h2,h3,h4,h5] at h; simp at h
 exact ⟨rfl,rfl,rfl,rfl,rfl,rfl⟩
structure Tiles (M:Img):Prop where
 sp:Spans M
 zero:fromP M 0=0
 pos:0 < M.funcs.length
theorem tiles_of {M:Img} (h:funcsP M=true):Tiles M:=by
 have hs:=funcs_spans h
 unfold funcsP funcs1 at h
 simp only [Bool.and_eq_true,Bool.not_eq_true',decide_eq_false_iff_not] at h
 obtain ⟨⟨h0,_⟩,h2⟩:=h
 have hp:0 < M.funcs.length:=by omega
 refine ⟨hs,?_,hp⟩
 obtain ⟨x,hx⟩:∃ x,M.funcs[0]?=some x:=⟨_,List.getElem?_eq_getElem hp⟩
 have:=(allI_iff _ _ _).1 h2 0 x hx
 unfold funcP at this
 rw [Bool.and_eq_true] at this
 have:=this.1
 simpa using this
theorem Tiles.to_from {M:Img} (_:Tiles M) {i:Nat} (hi:i+1 < M.funcs.length):toP M i=fromP M (i+1):=by
 unfold toP; rw [if_pos hi]
theorem Tiles.to_last {M:Img} {i:Nat} (hi:i+1=M.funcs.length):toP M i=M.code.length:=by
 unfold toP; rw [if_neg (by omega)]
theorem Tiles.lt {M:Img} (h:Tiles M) {i j:Nat} (hij:i < j) (hj:j < M.funcs.length):toP M i≤fromP M j:=by
 induction j with
 | zero=>omega
 | succ j ih=>
  by_cases e:i=j
  ·subst e; rw [h.to_from hj]; exact Int.le_refl _
  ·have:=ih (by omega) (by omega)
   have h2:=h.sp j (by omega)
   rw [h.to_from hj] at h2
   omega
theorem fromP_at {M:Img} {i:Nat} {x:FF} (hx:M.funcs[i]?=some x):fromP M i=x.entry:=by unfold fromP; rw [hx]; rfl
theorem ofR_spec (at':Int):∀ (l:List FF) (i:Nat) (b:Int),(ofR at' l i b=b∧∀ (j:Nat) (x:FF),l[j]?=some x→¬x.entry≤at')∨∃ (j:Nat) (x:FF),l[j]?=some x∧ofR at' l i b=((i+j:Nat):Int)∧x.entry≤at'∧∀ (k:Nat) (y:FF),l[k]?=some y→j < k→¬y.entry≤at'
 | [],i,b=>.inl ⟨rfl,fun j x h=>by simp at h⟩
 | x::r,i,b=>by
  rw [ofR]
  rcases ofR_spec at' r (i+1) (if x.entry≤at' then (i:Int) else b) with ⟨h1,h2⟩ | ⟨j,y,h1,h2,h3,h4⟩
  ·by_cases hx:x.entry≤at'
   ·rw [if_pos hx] at h1
    refine .inr ⟨0,x,rfl,by rw [if_pos hx,h1,Nat.add_zero],hx,fun k y hk hlt=>?_⟩
    match k with
    | k+1=>exact h2 k y hk
   ·rw [if_neg hx] at h1
    refine .inl ⟨by rw [if_neg hx,h1],fun k y hk=>?_⟩
    match k with
    | 0=>cases hk; exact hx
    | k+1=>exact h2 k y hk
  ·refine .inr ⟨j+1,y,h1,by rw [h2]; congr 1; omega,h3,fun k z hk hlt=>?_⟩
   match k with
   | k+1=>exact h4 k z hk (by omega)
theorem Tiles.of {M:Img} (h:Tiles M) {at':Int} (h0:0≤at') (h1:at' < (M.code.length:Int)):∃ f:Nat,f < M.funcs.length∧ofR at' M.funcs 0 0=(f:Int)∧fromP M f≤at'∧at' < toP M f:=by
 rcases ofR_spec at' M.funcs 0 0 with ⟨_,h2⟩ | ⟨j,x,hx,h2,h3,h4⟩
 ·exfalso
  obtain ⟨x,hx⟩:∃ x,M.funcs[0]?=some x:=⟨_,List.getElem?_eq_getElem h.pos⟩
  have:=h2 0 x hx
  have hz:=h.zero
  rw [fromP_at hx] at hz
  omega
 ·have hj:=(List.getElem?_eq_some_iff.1 hx).1
  refine ⟨j,hj,by rw [h2,Nat.zero_add],by rw [fromP_at hx]; exact h3,?_⟩
  by_cases hl:j+1 < M.funcs.length
  ·rw [h.to_from hl]
   obtain ⟨y,hy⟩:∃ y,M.funcs[j+1]?=some y:=⟨_,List.getElem?_eq_getElem hl⟩
   have:=h4 (j+1) y hy (by omega)
   rw [fromP_at hy]
   omega
  ·rw [Tiles.to_last (by omega)]
   exact h1
theorem Tiles.uniq {M:Img} (h:Tiles M) {at':Int} {f g:Nat} (hf:f < M.funcs.length) (hg:g < M.funcs.length) (h1:fromP M f≤at'∧at' < toP M f) (h2:fromP M g≤at'∧at' < toP M g):f=g:=by
 rcases Nat.lt_trichotomy f g with q | q | q
 ·have:=h.lt q hg; omega
 ·exact q
 ·have:=h.lt q hf; omega
theorem Tab.ext {m m':Mem} (h:Tab m) (k:Ext m m'):Tab m':=⟨(k.2 _ (Mem.get_lt h.k)).trans h.k,(k.2 _ (Mem.get_lt h.s)).trans h.s,(k.2 _ (Mem.get_lt h.t)).trans h.t⟩
def outI (x:II) (a:Int):List Int:=(if x.op=1∨x.op=18∨x.op=15 then [] else [a+1])++(if x.op=15∨x.op=16 then [x.a] else [])
def nextI (x:II) (a:Int):List Int:=Lib.compact (sortZ (outI x a))
theorem len_sort (zs:List Int):(sortZ zs).length=zs.length:=by unfold sortZ; simp
theorem outI_len (x:II) (a:Int):(outI x a).length≤2:=by
 unfold outI
 rw [List.length_append]
 split <;> split <;> simp
theorem nextI_len (x:II) (a:Int):(nextI x a).length≤2:=by
 unfold nextI
 have h1:=Lib.compact_length_le (sortZ (outI x a))
 have h2:=outI_len x a
 rw [len_sort] at h1
 omega
theorem compact_shape (n:Nat) {m m':Mem} {b o k:Nat} {cap:Option Nat} {e:Nat} {v:AV} (h:run A (n+1) 120 [.slice b o k cap e] m=some (v,m')):∃ k',v=.slice b o k' cap e:=by
 rw [run_120] at h
 unfold fnEv a120 primFn at h
 try dsimp only at h
 unfold compactEv at h
 dsimp only at h
 split at h
 ·simp only [Option.some.injEq,Prod.mk.injEq] at h
  exact ⟨_,h.1.symm⟩
 ·split at h
  ·simp only [Option.some.injEq,Prod.mk.injEq] at h
   exact ⟨_,h.1.symm⟩
  ·cases h
theorem compact_nil (n:Nat) {m m':Mem} {v:AV} (h:run A (n+1) 120 [.nils] m=some (v,m')):v=.nils:=by
 rw [run_120] at h
 unfold fnEv a120 primFn at h
 try dsimp only at h
 unfold compactEv at h
 simp only [Option.some.injEq,Prod.mk.injEq] at h
 exact h.1.symm
theorem compact_far (n n0:Nat) {m m':Mem} {v w:AV} {cs:List AV} {k:Nat} (ho:OS 1 n0 m w cs k) (h:run A (n+1) 120 [w] m=some (v,m')):(∀ b,blkOf v=some b→n0≤b)∧sameH v v=true:=by
 rcases ho with ⟨rfl,_⟩ | ⟨b',h0,rfl,_⟩
 ·rw [compact_nil n h]
  exact ⟨fun b hb=>(by cases hb),rfl⟩
 ·obtain ⟨k',rfl⟩:=compact_shape n h
  exact ⟨fun b hb=>(by cases hb; exact h0),by simp [sameH]⟩
theorem next_run2 (N:Nat) (hN:10≤N) (m:Mem) (I:ImV) (M:Img) (hm:IM m I M) (hT:Tab m) (a:Nat) (x:II) (hx:M.code[a]?=some x) (hok:codeOk x.op x.a x.b x.c=true) (hl:a≤100000) (hmn:m.n+12≤2 ^ depth):
  ∃ v m',run A N 87 [.agg (ic I M),.int .i64 (a:Int)] m=some (v,m')∧RS (fun z=>[AV.int .i64 z]) 1 m' v (nextI x a)∧Gr m m' 4∧(∀ b,blkOf v=some b→m.n≤b)∧sameH v v=true:=by
 obtain ⟨n,rfl⟩:∃ n,N=n+1:=⟨N - 1,by omega⟩
 have hP:=hm.pls
 obtain ⟨b,o,cs,ow,e1,e2,e3,_⟩:=hm.c.ii hx
 have hj:=jumps_ex n (by omega) x.op x.a x.b x.c m hT
 unfold insA at hj
 have a1:=add_i a (by omega)
 rw [run_87]
 unfold fnEv a87
 by_cases h1:x.op=1∨x.op=18
 ·have hje:jumpsI x.op x.a x.b x.c=.tup [.int .i64 0,.bool false,.bool false]:=by unfold jumpsI; rw [if_pos hok]; rw [if_pos h1]
  rw [hje] at hj
  have h15:¬(x.op=15∨x.op=16):=by omega
  have h16:x.op=1∨x.op=18∨x.op=15:=by omega
  have hout:outI x a=[]:=by unfold outI; simp [h15,h16]
  unfold nextI
  rw [hout]
  obtain ⟨m5,r5,o5,n5,k5⟩:=sort_at (n - 1) (show OS 1 m.n m .nils (([]:List Int).map fun z=>AV.int .i64 z) ([]:List Int).length from .inl ⟨rfl,rfl,rfl⟩) (by omega) (by simp)
  rw [show n - 1+1=n by omega] at r5
  have hsl:(sortZ []).length=([]:List Int).length:=len_sort _
  rw [←hsl] at o5
  obtain ⟨v6,m6,r6,o6,n6,k6⟩:=compact_at (n - 1) o5 (by omega)
  have far6:=compact_far (n - 1) m.n o5 r6
  rw [show n - 1+1=n by omega] at r6
  obtain ⟨z1,z2,z3,z4⟩:=o6.plain
  refine ⟨v6,m6,?_,o6,⟨⟨by omega,fun i hi=>(k6 i hi).trans ((k5 i hi).trans ((fun i _=>rfl:∀ i,i < m.n→m.get i=m.get i) i hi))⟩,by omega⟩,far6⟩
  simp only [KK,opE_mkslc,Nat.reduceEqDiff,Nat.reduceAdd,Nat.reduceLeDiff,Nat.reduceLT,Nat.reducePow,Nat.mul_one,e1,e2,e3,hj,a1,r5,r6,z2]
 by_cases h2:x.op=15
 ·have hje:jumpsI x.op x.a x.b x.c=.tup [.int .i64 x.a,.bool true,.bool false]:=by unfold jumpsI; rw [if_pos hok]; rw [if_neg h1,if_pos h2]
  rw [hje] at hj
  obtain ⟨v1,m1,ha1,o1,n1,n2,k1,y1,y2,hf1⟩:=push_int (IS.nil m.n m) x.a (by omega) (Nat.le_refl _) (by simp)
  rw [List.nil_append] at o1
  have hout:outI x a=[x.a]:=by unfold outI; simp [h2]
  unfold nextI
  rw [hout]
  obtain ⟨m5,r5,o5,n5,k5⟩:=sort_at (n - 1) (o1) (by omega) (by simp)
  rw [show n - 1+1=n by omega] at r5
  have hsl:(sortZ [x.a]).length=([x.a]:List Int).length:=len_sort _
  rw [←hsl] at o5
  obtain ⟨v6,m6,r6,o6,n6,k6⟩:=compact_at (n - 1) o5 (by omega)
  have far6:=compact_far (n - 1) m.n o5 r6
  rw [show n - 1+1=n by omega] at r6
  obtain ⟨z1,z2,z3,z4⟩:=o6.plain
  refine ⟨v6,m6,?_,o6,⟨⟨by omega,fun i hi=>(k6 i hi).trans ((k5 i hi).trans (k1 i hi))⟩,by omega⟩,far6⟩
  simp only [KK,opE_mkslc,Nat.reduceEqDiff,Nat.reduceAdd,Nat.reduceLeDiff,Nat.reduceLT,Nat.reducePow,Nat.mul_one,e1,e2,e3,hj,a1,hf1,zer1,ha1,y1,y2,r5,r6,z2]
 obtain ⟨v1,m1,ha1,o1,n1,n2,k1,y1,y2,hf1⟩:=push_int (IS.nil m.n m) ((a+1:Nat):Int) (by omega) (Nat.le_refl _) (by simp)
 rw [List.nil_append] at o1
 by_cases h3:x.op=16
 ·have hje:jumpsI x.op x.a x.b x.c=.tup [.int .i64 x.a,.bool true,.bool true]:=by unfold jumpsI; rw [if_pos hok]; rw [if_neg h1,if_neg h2,if_pos h3]
  rw [hje] at hj
  obtain ⟨v2,m2,ha2,o2,n3,n4,k2,y3,y4,hf2⟩:=push_int o1 x.a (by omega) (by omega) (by simp)
  have hout:outI x a=([((a+1:Nat):Int)]++[x.a]):=by unfold outI; simp [h3]
  unfold nextI
  rw [hout]
  obtain ⟨m5,r5,o5,n5,k5⟩:=sort_at (n - 1) (o2) (by omega) (by simp)
  rw [show n - 1+1=n by omega] at r5
  have hsl:(sortZ ([((a+1:Nat):Int)]++[x.a])).length=(([((a+1:Nat):Int)]++[x.a]):List Int).length:=len_sort _
  rw [←hsl] at o5
  obtain ⟨v6,m6,r6,o6,n6,k6⟩:=compact_at (n - 1) o5 (by omega)
  have far6:=compact_far (n - 1) m.n o5 r6
  rw [show n - 1+1=n by omega] at r6
  obtain ⟨z1,z2,z3,z4⟩:=o6.plain
  refine ⟨v6,m6,?_,o6,⟨⟨by omega,fun i hi=>(k6 i hi).trans ((k5 i hi).trans ((fun i hi=>(k2 i hi).trans (k1 i hi)) i hi))⟩,by omega⟩,far6⟩
  simp only [KK,opE_mkslc,Nat.reduceEqDiff,Nat.reduceAdd,Nat.reduceLeDiff,Nat.reduceLT,Nat.reducePow,Nat.mul_one,e1,e2,e3,hj,a1,hf1,zer1,ha1,y1,hf2,ha2,y3,y4,r5,r6,z2]
 have hje:jumpsI x.op x.a x.b x.c=.tup [.int .i64 0,.bool false,.bool true]:=by unfold jumpsI; rw [if_pos hok]; rw [if_neg h1,if_neg h2,if_neg h3]
 rw [hje] at hj
 have h15:¬(x.op=15∨x.op=16):=by omega
 have h16:¬(x.op=1∨x.op=18∨x.op=15):=by omega
 have hout:outI x a=[((a+1:Nat):Int)]:=by unfold outI; simp [h15,h16]
 unfold nextI
 rw [hout]
 obtain ⟨m5,r5,o5,n5,k5⟩:=sort_at (n - 1) (o1) (by omega) (by simp)
 rw [show n - 1+1=n by omega] at r5
 have hsl:(sortZ [((a+1:Nat):Int)]).length=([((a+1:Nat):Int)]:List Int).length:=len_sort _
 rw [←hsl] at o5
 obtain ⟨v6,m6,r6,o6,n6,k6⟩:=compact_at (n - 1) o5 (by omega)
 have far6:=compact_far (n - 1) m.n o5 r6
 rw [show n - 1+1=n by omega] at r6
 obtain ⟨z1,z2,z3,z4⟩:=o6.plain
 refine ⟨v6,m6,?_,o6,⟨⟨by omega,fun i hi=>(k6 i hi).trans ((k5 i hi).trans (k1 i hi))⟩,by omega⟩,far6⟩
 simp only [KK,opE_mkslc,Nat.reduceEqDiff,Nat.reduceAdd,Nat.reduceLeDiff,Nat.reduceLT,Nat.reducePow,Nat.mul_one,e1,e2,e3,hj,a1,hf1,zer1,ha1,y1,y2,r5,r6,z2]
theorem next_run (N:Nat) (hN:10≤N) (m:Mem) (I:ImV) (M:Img) (hm:IM m I M) (hT:Tab m) (a:Nat) (x:II) (hx:M.code[a]?=some x) (hok:codeOk x.op x.a x.b x.c=true) (hl:a≤100000) (hmn:m.n+12≤2 ^ depth):
  ∃ v m',run A N 87 [.agg (ic I M),.int .i64 (a:Int)] m=some (v,m')∧RS (fun z=>[AV.int .i64 z]) 1 m' v (nextI x a)∧Gr m m' 4∧∀ b,blkOf v=some b→m.n≤b:=by
 obtain ⟨v,m',h1,h2,h3,h4,_⟩:=next_run2 N hN m I M hm hT a x hx hok hl hmn
 exact ⟨v,m',h1,h2,h3,h4⟩
def CodesOk (M:Img):Prop:=∀ (a:Nat) (x:II),M.code[a]?=some x→codeOk x.op x.a x.b x.c=true
def nextAt (M:Img) (a:Nat):List Int:=match M.code[a]? with
 | some x=>nextI x a
 | none=>[]
def nextP (M:Img) (c at':Int):List Int:=if c=0∧0≤at'∧at' < (M.code.length:Int) then nextAt M at'.toNat else []
theorem Next_run (N:Nat) (m:Mem) (I:ImV) (M:Img) (hm:IM m I M) (hT:Tab m) (hl:M.funcs.length≤100000) (hlc:M.code.length≤100000) (m0:Mem) (c:Int) (NC KC:Nat) (hck:CkOk m0 I M NC KC 54 c) (he:Ext m0 m) (hmn:m.n+KC+12≤2 ^ depth) (hco:c=0→CodesOk M) (hN:NC+M.funcs.length+15≤N) (at':Int):
  ∃ v m',run A N 45 [.agg (ic I M),.int .i64 at'] m=some (v,m')∧RS (fun z=>[AV.int .i64 z]) 1 m' v (nextP M c at')∧Gr m m' (KC+4):=by
 obtain ⟨n,rfl⟩:∃ n,N=n+1:=⟨N - 1,by omega⟩
 have hP:=hm.pls
 obtain ⟨m1,ho,hg⟩:=of_run n m I M hm hl m0 c NC KC hck he (by omega) (by omega) at'
 have hm1:=hm.ext hg.1
 have hgn:=hg.2
 rw [run_45]
 unfold fnEv a45
 by_cases h:c=0∧0≤at'∧at' < (M.code.length:Int)
 ·have h1:ofP M c at'=(ofR at' M.funcs 0 0,true):=if_pos h
  have h2:nextP M c at'=nextAt M at'.toNat:=if_pos h
  rw [h1] at ho
  dsimp only at ho
  obtain ⟨h0,h3,h4⟩:=h
  obtain ⟨k,rfl⟩:∃ k:Nat,at'=(k:Int):=⟨at'.toNat,by omega⟩
  obtain ⟨x,hx⟩:∃ x,M.code[k]?=some x:=⟨_,List.getElem?_eq_getElem (by omega)⟩
  rw [h2,Int.toNat_natCast]
  unfold nextAt
  rw [hx]
  dsimp only
  obtain ⟨v,m2,hr,hv,hg2,_⟩:=next_run n (by omega) m1 I M hm1 (hT.ext hg.1) k x hx (hco h0 k x hx) (by omega) (by omega)
  obtain ⟨z1,z2,_,_⟩:=hv.plain
  exact ⟨v,m2,by simp only [KK,Nat.reduceEqDiff,Nat.reduceAdd,Nat.reduceLeDiff,Nat.reduceLT,ho,hr,z2],hv,hg.trans hg2⟩
 ·have h1:ofP M c at'=(0,false):=if_neg h
  have h2:nextP M c at'=[]:=if_neg h
  rw [h1] at ho
  rw [h2]
  exact ⟨.nils,m1,by simp only [KK,Nat.reduceEqDiff,Nat.reduceAdd,Nat.reduceLeDiff,Nat.reduceLT,ho],.inl ⟨rfl,rfl⟩,hg.le (by omega)⟩
theorem app_cut {m:Mem} {b:Nat} {way:List Int} {ow:Bool} (hg:m.get b=some (.cells (way.map fun z=>AV.int .i64 z) ow)) (x:Int) (hmn:m.n+3≤2 ^ depth) (hl:way.length≤100000):
  ∀ sn t l,appEv ⟨sn,t,l,m.push (.cells [.int .i64 x] true)⟩ none 1 8 (.slice b 0 way.length (some way.length) 1) (.slice m.n 0 1 (some 1) 1)=some (.slice (m.n+1) 0 (way.length+1) none 1,⟨sn,t,l,(m.push (.cells [.int .i64 x] true)).push (.cells ((way++[x]).map fun z=>AV.int .i64 z) true)⟩):=by
 intro sn t l
 have hf:=not_full (m:=m) (by omega)
 have hf2:=not_full (m:=m.push (.cells [.int .i64 x] true)) (by rw [push_n]; omega)
 have hb:(m.push (.cells [.int .i64 x] true)).get b=some (.cells (way.map fun z=>AV.int .i64 z) ow):=(Mem.get_push_old _ hf (by have:=Mem.get_lt hg; omega)).trans hg
 have hel:(AV.slice m.n 0 1 (some 1) 1).elems ⟨sn,t,l,m.push (.cells [.int .i64 x] true)⟩ 1=some (1,[.int .i64 x]):=by
  simp only [AV.elems,Mem.get_push_new]
  rfl
 have c2:cellsAt (way.map fun z=>AV.int .i64 z) 0 (way.length*1)=some (way.map fun z=>AV.int .i64 z):=by
  unfold cellsAt
  rw [if_pos (by simp),List.drop_zero,Nat.mul_one,List.take_of_length_le (by simp)]
 simp only [appEv,hel,hb,hf2,c2,List.all_cons,List.all_nil,AV.one,Bool.and_self,if_true,Bool.false_eq_true,if_false,push_n]
 rw [if_neg (by omega),if_pos ⟨by omega,Nat.le_trans (show way.length+1≤100001 by omega) (by decide)⟩]
 simp only [Mem.noteO,List.map_append,List.map_cons,List.map_nil]
theorem cut_way {_m:Mem} {b:Nat} {way:List Int} {cap:Option Nat} (hcap:cap=none∨cap=some way.length) (s:St):slcR 1 (.slice b 0 way.length cap 1) none (some (.int .i64 (way.length:Int))) (some (.int .i64 (way.length:Int))) s=some (.slice b 0 way.length (some way.length) 1,s):=by
 have hb:bndsEv way.length way.length none (some (.int .i64 (way.length:Int))) (some (.int .i64 (way.length:Int)))=some (0,way.length,way.length):=by
  have h1:bndEv way.length (.int .i64 (way.length:Int))=some way.length:=by
   simp only [bndEv]
   rw [if_pos (by omega),Int.toNat_natCast]
  simp [bndsEv,obnd,h1]
 rcases hcap with rfl | rfl <;> simp [slcR,hb]
theorem clone_run (N:Nat) (hN:2≤N) (m:Mem) (b:Nat) (way:List Int) (cap:Option Nat) (ow:Bool) (hg:m.get b=some (.cells (way.map fun z=>AV.int .i64 z) ow)) (hne:way.length≠0) (hl:way.length≤100000) (hmn:m.n+3≤2 ^ depth):
  run A N 86 [.slice b 0 way.length cap 1] m=some (.slice (m.n+1) 0 way.length none 1,(m.push (.cells [] true)).push (.cells (way.map fun z=>AV.int .i64 z) true)):=by
 obtain ⟨n,rfl⟩:∃ n,N=n+1:=⟨N - 1,by omega⟩
 have hf:=not_full (m:=m) (by omega)
 have hf2:=not_full (m:=m.push (.cells [] true)) (by rw [push_n]; omega)
 have hb:(m.push (.cells [] true)).get b=some (.cells (way.map fun z=>AV.int .i64 z) ow):=(Mem.get_push_old _ hf (by have:=Mem.get_lt hg; omega)).trans hg
 have c2:cellsAt (way.map fun z=>AV.int .i64 z) 0 (way.length*1)=some (way.map fun z=>AV.int .i64 z):=by
  unfold cellsAt
  rw [if_pos (by simp),List.drop_zero,Nat.mul_one,List.take_of_length_le (by simp)]
 have c0:cellsAt ([]:List AV) 0 (0*1)=some []:=rfl
 have hz0:zerosEv [AV.int .i64 0] 0=[]:=rfl
 have happ:∀ sn t l,appEv ⟨sn,t,l,m.push (.cells [] true)⟩ none 1 8 (.slice m.n 0 0 (some 0) 1) (.slice b 0 way.length cap 1)=some (.slice (m.n+1) 0 way.length none 1,⟨sn,t,l,(m.push (.cells [] true)).push (.cells (way.map fun z=>AV.int .i64 z) true)⟩):=by
  intro sn t l
  have hel:(AV.slice b 0 way.length cap 1).elems ⟨sn,t,l,m.push (.cells [] true)⟩ 1=some (way.length,way.map fun z=>AV.int .i64 z):=by
   simp only [AV.elems,hb,c2,hne,if_false]
  simp only [appEv,hel,Mem.get_push_new,hf2,c0,ones_int,if_true,Bool.false_eq_true,if_false,push_n]
  rw [if_neg (by omega),if_pos ⟨by omega,Nat.le_trans (show 0+way.length≤100000 by omega) (by decide)⟩]
  simp only [Mem.noteO,List.nil_append,Nat.zero_add]
 have hnil:∀ b o n c e,eqEv .nilS (.slice b o n c e) .nils=some false:=fun _ _ _ _ _=>rfl
 rw [run_86]
 unfold fnEv a86
 simp only [KK,opE_mkslc,Nat.reduceEqDiff,Nat.reduceAdd,Nat.reduceLeDiff,Nat.reduceLT,Nat.reducePow,Nat.mul_one,hnil,hf,hz0,happ]
theorem add_row {n0:Nat} {m:Mem} {a:AV} {ws:List AV} {ls:List (List Int)} (ho:OS 1 n0 m a ws ws.length) (hr:Rows m a ws ls) {w:AV} {l:List Int} (hw:RS (fun x=>[AV.int .i64 x]) 1 m w l) (hwb:∀ b,blkOf w=some b→b < m.n∧blkOf a≠some b) (hmn:m.n+3≤2 ^ depth) (hal:ws.length≤1000000) (hn0:n0≤m.n):
  ∃ m',(∀ sn t q,appEv ⟨sn,t,q,m.push (.cells [w] true)⟩ none 1 24 a (.slice m.n 0 1 (some 1) 1)=some (.slice (m.n+1) 0 (ws.length+1) none 1,⟨sn,t,q,m'⟩))∧OS 1 n0 m' (.slice (m.n+1) 0 (ws.length+1) none 1) (ws++[w]) (ws++[w]).length∧Rows m' (.slice (m.n+1) 0 (ws.length+1) none 1) (ws++[w]) (ls++[l])∧m'.n=m.n+2∧(∀ i,i < m.n→blkOf a≠some i→m'.get i=m.get i):=by
 have hf:=not_full (m:=m) (by omega)
 obtain ⟨w1,w2,w3,w4⟩:=hw.plain
 have hab:∀ b,blkOf a=some b→b < m.n:=by
  intro b hb
  rcases ho with ⟨rfl,_⟩ | ⟨b',h0,rfl,g1,g2⟩
  ·cases hb
  ·cases hb
   exact Mem.get_lt g1
 obtain ⟨m4,ha,g1,g2,g3,g4⟩:=app_spec2 (ty:=none) (c:=1) (n0:=n0) (bytes:=24) (by omega) (ho.push (.cells [w] true) (by omega)) (by':=m.n) (cp:=some 1) (e:=[w]) (ow:=true) (Mem.get_push_new _) rfl (by simp [w3]) (by rw [push_n]; omega) (by omega) (Nat.le_trans (show ws.length+1≤1000001 by omega) (by decide))
 rw [push_n] at ha g1 g3 g4
 have hold:∀ i,i < m.n→blkOf a≠some i→m4.get i=m.get i:=fun i hi hne=>(g4 i (by omega) hne).trans (Mem.get_push_old _ hf (by omega))
 refine ⟨m4,ha,.inr ⟨m.n+1,by omega,by simp,g1,by simp⟩,⟨by simp [hr.1],fun i v q hv hq=>?_⟩,by omega,hold⟩
 by_cases hi:i < ws.length
 ·rw [List.getElem?_append_left hi] at hv
  rw [List.getElem?_append_left (by rw [←hr.1]; exact hi)] at hq
  obtain ⟨q1,q2⟩:=hr.2 i v q hv hq
  refine ⟨q1.frame fun b hb hbw=>hold b hb (q2 b hbw).2,fun b hb=>⟨by have:=(q2 b hb).1; omega,?_⟩⟩
  have:=(q2 b hb).1
  simp only [blkOf,ne_eq,Option.some.injEq]
  omega
 ·have hi2:i=ws.length:=by
   have:=(List.getElem?_eq_some_iff.1 hv).1
   rw [List.length_append,List.length_singleton] at this
   omega
  subst hi2
  rw [List.getElem?_append_right (Nat.le_refl _),Nat.sub_self] at hv
  rw [List.getElem?_append_right (by rw [hr.1]; exact Nat.le_refl _),hr.1,Nat.sub_self] at hq
  cases hv
  cases hq
  refine ⟨hw.frame fun b hb hbw=>hold b hb (hwb b hbw).2,fun b hb=>⟨by have:=(hwb b hb).1; omega,?_⟩⟩
  have:=(hwb b hb).1
  simp only [blkOf,ne_eq,Option.some.injEq]
  omega
def ptree (M:Img):Nat→List Int→Nat→List (List Int)
 | 0,way,_=>[way]
 | k+1,way,a=>way::(nextAt M a).flatMap fun n=>ptree M k (way++[n]) n.toNat
def NextIn (M:Img):Prop:=∀ (a:Nat) (x:II),M.code[a]?=some x→∀ n∈nextI x a,0≤n∧n < (M.code.length:Int)
structure PS (m0:Mem) (I:ImV) (M:Img) (most:Int) (n1 Q1 Q2 Q3 Q4:Nat) (m:Mem) (a:AV) (ws:List AV) (ls:List (List Int)):Prop where
 ext:Ext m0 m
 lo:m0.n≤Q1∧m0.n≤Q2∧m0.n≤Q3∧m0.n≤Q4
 hi:Q1 < n1∧Q2 < n1∧Q3 < n1∧Q4 < n1
 ne:Q1≠Q2∧Q1≠Q3∧Q1≠Q4
 nn:n1≤m.n
 g1:m.get Q1=some (.cells [a] true)
 g2:m.get Q2=some (.cells [.int .i64 most] true)
 g3:m.get Q3=some (.cells (ic I M) true)
 g4:m.get Q4=some (.cells [.fn 85 [.ptr Q1 0,.ptr Q2 0,.ptr Q3 0,.ptr Q4 0]] true)
 os:OS 1 n1 m a ws ws.length
 rows:Rows m a ws ls
 far:∀ (i:Nat) (w:AV),ws[i]?=some w→∀ b,blkOf w=some b→n1≤b
theorem PS.up {m0:Mem} {I:ImV} {M:Img} {most:Int} {n1 Q1 Q2 Q3 Q4:Nat} {m m':Mem} {a:AV} {ws:List AV} {ls:List (List Int)} (h:PS m0 I M most n1 Q1 Q2 Q3 Q4 m a ws ls) (k:Ext m m'):PS m0 I M most n1 Q1 Q2 Q3 Q4 m' a ws ls where
 ext:=h.ext.trans k
 lo:=h.lo
 hi:=h.hi
 ne:=h.ne
 nn:=Nat.le_trans h.nn k.1
 g1:=(k.2 _ (Mem.get_lt h.g1)).trans h.g1
 g2:=(k.2 _ (Mem.get_lt h.g2)).trans h.g2
 g3:=(k.2 _ (Mem.get_lt h.g3)).trans h.g3
 g4:=(k.2 _ (Mem.get_lt h.g4)).trans h.g4
 os:=by
  rcases h.os with q | ⟨b,h0,q,g1,g2⟩
  ·exact .inl q
  ·exact .inr ⟨b,h0,q,(k.2 b (Mem.get_lt g1)).trans g1,g2⟩
 rows:=⟨h.rows.1,fun i w l hw hl=>⟨(h.rows.2 i w l hw hl).1.ext k,fun b hb=>⟨by have:=((h.rows.2 i w l hw hl).2 b hb).1; have:=k.1; omega,((h.rows.2 i w l hw hl).2 b hb).2⟩⟩⟩
 far:=h.far
theorem OS.same {n0:Nat} {m:Mem} {a:AV} {cs:List AV} {n:Nat} (h:OS 1 n0 m a cs n):eqV 4 a a=true∧∀ b,blkOf a=some b→n0≤b∧b < m.n:=by
 rcases h with ⟨rfl,_⟩ | ⟨b,h0,rfl,g,_⟩
 ·exact ⟨rfl,fun b hb=>by cases hb⟩
 ·exact ⟨by simp [eqV],fun c hc=>by cases hc; exact ⟨h0,Mem.get_lt g⟩⟩
theorem PS.add {m0:Mem} {I:ImV} {M:Img} {most:Int} {n1 Q1 Q2 Q3 Q4:Nat} {m:Mem} {a:AV} {ws:List AV} {ls:List (List Int)} (h:PS m0 I M most n1 Q1 Q2 Q3 Q4 m a ws ls) {w:AV} {l:List Int} (hw:RS (fun x=>[AV.int .i64 x]) 1 m w l) (hwb:∀ b,blkOf w=some b→n1≤b∧b < m.n∧blkOf a≠some b) (hmn:m.n+3≤2 ^ depth) (hal:ws.length≤1000000):
  ∃ m2,(∀ sn t q,appEv ⟨sn,t,q,m.push (.cells [w] true)⟩ none 1 24 a (.slice m.n 0 1 (some 1) 1)=some (.slice (m.n+1) 0 (ws.length+1) none 1,⟨sn,t,q,m2⟩))∧m2.get Q1=some (.cells [a] true)∧m2.n=m.n+2∧PS m0 I M most n1 Q1 Q2 Q3 Q4 (m2.set Q1 (.cells [.slice (m.n+1) 0 (ws.length+1) none 1] true)) (.slice (m.n+1) 0 (ws.length+1) none 1) (ws++[w]) (ls++[l])∧
   (∀ i,i < m.n→i≠Q1→blkOf a≠some i→(m2.set Q1 (.cells [.slice (m.n+1) 0 (ws.length+1) none 1] true)).get i=m.get i):=by
 obtain ⟨m2,ha,o2,r2,n2,k2⟩:=add_row h.os h.rows hw (fun b hb=>(hwb b hb).2) hmn hal h.nn
 have hab:=h.os.same.2
 have hq:∀ q,q < n1→blkOf a≠some q:=fun q hq e=>by have:=(hab q e).1; omega
 have hnn:=h.nn
 have hQ1:Q1 < m2.n:=by have:=h.hi.1; omega
 have hle:m2.n≤2 ^ depth:=by omega
 have hset:∀ i,i≠Q1→(m2.set Q1 (.cells [.slice (m.n+1) 0 (ws.length+1) none 1] true)).get i=m2.get i:=fun i hi=>Mem.get_set_ne _ hle hQ1 (fun e=>hi e.symm)
 have hk:∀ i,i < m.n→i≠Q1→blkOf a≠some i→(m2.set Q1 (.cells [.slice (m.n+1) 0 (ws.length+1) none 1] true)).get i=m.get i:=fun i hi hne hb=>(hset i hne).trans (k2 i hi hb)
 have hlo:=h.lo
 have hhi:=h.hi
 have hnq:=h.ne
 refine ⟨m2,ha,(k2 Q1 (by omega) (hq Q1 hhi.1)).trans h.g1,n2,⟨⟨by rw [set_n]; have:=h.ext.1; omega,fun i hi=>(hk i (by have:=h.ext.1; omega) (by omega) (hq i (by omega))).trans (h.ext.2 i hi)⟩,hlo,hhi,hnq,by rw [set_n]; omega,Mem.get_set_same _ hQ1,(hk Q2 (by omega) (Ne.symm hnq.1) (hq Q2 hhi.2.1)).trans h.g2,(hk Q3 (by omega) (Ne.symm hnq.2.1) (hq Q3 hhi.2.2.1)).trans h.g3,(hk Q4 (by omega) (Ne.symm hnq.2.2) (hq Q4 hhi.2.2.2)).trans h.g4,?_,?_,?_⟩,hk⟩
 ·rcases o2 with ⟨q,_⟩ | ⟨b,h0,q,g1,g2⟩
  ·cases q
  ·simp only [AV.slice.injEq] at q
   obtain ⟨rfl,_⟩:=q
   exact .inr ⟨m.n+1,h0,by simp,(hset _ (by omega)).trans g1,g2⟩
 ·refine ⟨r2.1,fun i v q hv hq2=>⟨(r2.2 i v q hv hq2).1.frame fun b hb hbv=>hset b ?_,fun b hb=>⟨by rw [set_n]; exact ((r2.2 i v q hv hq2).2 b hb).1,((r2.2 i v q hv hq2).2 b hb).2⟩⟩⟩
  rintro rfl
  by_cases hi:i < ws.length
  ·rw [List.getElem?_append_left hi] at hv
   have:=h.far i v hv _ hbv
   omega
  ·rw [List.getElem?_append_right (by omega)] at hv
   cases hj:i - ws.length with
   | zero=>
    rw [hj] at hv
    cases hv
    have:=(hwb _ hbv).1
    omega
   | succ j=>rw [hj] at hv; cases hv
 ·intro i v hv b hb
  by_cases hi:i < ws.length
  ·rw [List.getElem?_append_left hi] at hv
   exact h.far i v hv b hb
  ·rw [List.getElem?_append_right (by omega)] at hv
   cases hj:i - ws.length with
   | zero=>
    rw [hj] at hv
    cases hv
    exact (hwb b hb).1
   | succ j=>rw [hj] at hv; cases hv
end AG
