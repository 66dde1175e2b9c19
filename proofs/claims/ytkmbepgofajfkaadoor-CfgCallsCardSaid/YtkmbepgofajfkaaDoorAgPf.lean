/- What the functions that read images and paths compute, and the laws of that. -/
import Derived.Test.YtkmbepgofajfkaaDoorAgPe
namespace AG
open Go Go.Proofs.YtkmbepgofajfkaaDoor
set_option maxRecDepth 100000
set_option maxHeartbeats 4000000
theorem long_loop (m:Mem) (I:ImV) (M:Img) (hm:IM m I M) (hl:M.atoms.length≤100000) (N:Nat) (T:List (Nat×AV)) (L:List (Nat×List AV)) (hN:M.atoms.length+1≤N) (hk:keepT [1,3] [1] T=[(1,.loc 1 0),(3,.int .i64 0)]) (hL:lookL L 1=some (ic I M)) {q:Option (Ex×St)} (hq:codeEv (run A N) (ev A N).2 a75_L1 ⟨52,T,L,m⟩=q):
  ∃ T' L',(allI (fun _ (l:List Int)=>decide (l.length≤4096)) M.atoms 0=true∧q=some (.exit 0,⟨52,T',L',m⟩)∧keepT [1] [1] T'=[(1,.loc 1 0)]∧lookL L' 1=some (ic I M))∨(allI (fun _ (l:List Int)=>decide (l.length≤4096)) M.atoms 0=false∧q=some (.ret,⟨52,T',L',m⟩)∧look T' 2=.bool true):=by
 have hP:=hm.pls
 have h:=scan0 (A:=A) a75_L1 a75_B1 a75_L1_step (fun i (_:Unit) s=>∃ T L,s=⟨52,T,L,m⟩∧keepT [1,3] [1] T=[(1,.loc 1 0),(3,.int .i64 (i:Int))]∧lookL L 1=some (ic I M)) (fun _ s=>∃ T L,s=⟨52,T,L,m⟩∧keepT [1] [1] T=[(1,.loc 1 0)]∧lookL L 1=some (ic I M)) (fun (_:Unit) s=>∃ T L,s=⟨52,T,L,m⟩∧look T 2=.bool true) 0 1 (allS fun _ (l:List Int)=>decide (l.length≤4096)) M.atoms
  (fun N b s hN ⟨T,L,hs,hk,hL⟩=>by
   subst hs
   have h':¬(M.atoms.length:Int) < (M.atoms.length:Int):=by omega
   unfold a75_B1
   exact ⟨_,by simp only [KK,Nat.reduceEqDiff,Nat.reduceAdd,Nat.reduceLeDiff,Nat.reduceLT,hk,hL,h',hP]; rfl,_,_,rfl,by simp only [keepT,List.map,look_set,look_cons,in_loc,Nat.reduceEqDiff,if_true,if_false,List.contains_cons,List.contains_nil,beq_self_eq_true,Bool.or_false],by simp only [lookL_cons,if_true]⟩)
  (fun N i x b s hN hx ⟨T,L,hs,hk,hL⟩=>by
   subst hs
   have hlt:=(List.getElem?_eq_some_iff.1 hx).1
   have h':(i:Int) < (M.atoms.length:Int):=by omega
   obtain ⟨b,o,cs,ow,w,e1,e2,e3,hw⟩:=hm.a.at hx
   obtain ⟨w1,w2,w3,w4⟩:=hw.plain
   have lw:=hw.lenR
   have a1:=add_i i (by omega)
   unfold allS
   by_cases hc:x.length≤4096
   ·have hd:decide (x.length≤4096)=true:=decide_eq_true hc
    have hc':¬(x.length:Int) > 4096:=by omega
    rw [if_pos hd]
    dsimp only
    unfold a75_B1
    exact ⟨_,by simp only [KK,Nat.reduceEqDiff,Nat.reduceAdd,Nat.reduceLeDiff,Nat.reduceLT,hk,hL,hP,h',e1,e2,e3,lw,hc',a1]; rfl,_,_,rfl,by simp only [keepT,List.map,look_set,look_cons,in_int,in_loc,Nat.reduceEqDiff,if_true,if_false,List.contains_cons,List.contains_nil,beq_self_eq_true,Bool.or_false],by simp only [lookL_cons,if_true]⟩
   ·have hd:¬decide (x.length≤4096)=true:=by simpa using hc
    have hc':(x.length:Int) > 4096:=by omega
    rw [if_neg hd]
    dsimp only
    unfold a75_B1
    exact ⟨_,by simp only [KK,Nat.reduceEqDiff,Nat.reduceAdd,Nat.reduceLeDiff,Nat.reduceLT,hk,hL,hP,h',e1,e2,e3,lw,hc']; rfl,_,_,rfl,by simp only [look_set,if_true]⟩)
  N () ⟨52,T,L,m⟩ (by omega) ⟨T,L,rfl,hk,hL⟩ hq
 rw [fold_all] at h
 cases hall:allI (fun _ (l:List Int)=>decide (l.length≤4096)) M.atoms 0
 ·rw [hall] at h
  obtain ⟨s',e,T',L',rfl,h2⟩:=h
  exact ⟨T',L',.inr ⟨rfl,e,h2⟩⟩
 ·rw [hall] at h
  obtain ⟨s',e,T',L',rfl,h2,h3⟩:=h
  exact ⟨T',L',.inl ⟨rfl,e,h2,h3⟩⟩
theorem long_run (N:Nat) (m:Mem) (I:ImV) (M:Img) (hm:IM m I M) (hl:M.atoms.length≤100000) (hN:M.atoms.length+2≤N):run A N 75 [.agg (ic I M)] m=some (.bool (!sizesP M),m):=by
 obtain ⟨n,rfl⟩:∃ n,N=n+1:=⟨N - 1,by omega⟩
 have hP:=hm.pls
 rw [run_75]
 unfold fnEv a75
 simp only [KK,Nat.reduceEqDiff,Nat.reduceAdd,Nat.reduceLT]
 generalize hq:codeEv (run A n) (ev A n).2 a75_L1 _=q
 obtain ⟨T',L',⟨h1,rfl,h2,h3⟩ | ⟨h1,rfl,h2⟩⟩:=long_loop m I M hm hl n _ _ (by omega) (by simp only [keepT,List.map,look_set,look_cons,in_int,in_loc,Nat.reduceEqDiff,if_true,if_false,List.contains_cons,List.contains_nil,beq_self_eq_true,Bool.or_false]) (by simp only [lookL_cons,if_true]) hq
 rotate_left
 ·have hz:sizesP M=false:=by unfold sizesP; rw [h1,Bool.and_false]
  rw [hz]
  simp only [loc_bool,if_false,Bool.not_false,Bool.false_eq_true,h2]
 have hzz:sizesP M=sizes1 M:=by unfold sizesP; rw [h1,Bool.and_true]
 rw [hzz]
 cases d0:decide (16384 < (M.code.length:Int))
 rotate_left
 ·have hz:sizes1 M=false:=by have q0:=of_decide_eq_true d0; unfold sizes1; rw [decide_eq_false_iff_not]; omega
  rw [hz]
  simp only [KK,Nat.reduceEqDiff,Nat.reduceAdd,Nat.reduceLeDiff,Nat.reduceLT,h2,h3,hP,d0]
 cases d1:decide (64 < (M.funcs.length:Int))
 rotate_left
 ·have hz:sizes1 M=false:=by have q0:=of_decide_eq_false d0; have q1:=of_decide_eq_true d1; unfold sizes1; rw [decide_eq_false_iff_not]; omega
  rw [hz]
  simp only [KK,Nat.reduceEqDiff,Nat.reduceAdd,Nat.reduceLeDiff,Nat.reduceLT,h2,h3,hP,d0,d1]
 cases d2:decide (32 < (M.vecs.length:Int))
 rotate_left
 ·have hz:sizes1 M=false:=by have q0:=of_decide_eq_false d0; have q1:=of_decide_eq_false d1; have q2:=of_decide_eq_true d2; unfold sizes1; rw [decide_eq_false_iff_not]; omega
  rw [hz]
  simp only [KK,Nat.reduceEqDiff,Nat.reduceAdd,Nat.reduceLeDiff,Nat.reduceLT,h2,h3,hP,d0,d1,d2]
 cases d3:decide (4096 < (M.init.length:Int))
 rotate_left
 ·have hz:sizes1 M=false:=by have q0:=of_decide_eq_false d0; have q1:=of_decide_eq_false d1; have q2:=of_decide_eq_false d2; have q3:=of_decide_eq_true d3; unfold sizes1; rw [decide_eq_false_iff_not]; omega
  rw [hz]
  simp only [KK,Nat.reduceEqDiff,Nat.reduceAdd,Nat.reduceLeDiff,Nat.reduceLT,h2,h3,hP,d0,d1,d2,d3]
 cases d4:decide (32 < (M.ports.length:Int))
 rotate_left
 ·have hz:sizes1 M=false:=by have q0:=of_decide_eq_false d0; have q1:=of_decide_eq_false d1; have q2:=of_decide_eq_false d2; have q3:=of_decide_eq_false d3; have q4:=of_decide_eq_true d4; unfold sizes1; rw [decide_eq_false_iff_not]; omega
  rw [hz]
  simp only [KK,Nat.reduceEqDiff,Nat.reduceAdd,Nat.reduceLeDiff,Nat.reduceLT,h2,h3,hP,d0,d1,d2,d3,d4]
 cases d5:decide (64 < (M.atoms.length:Int))
 rotate_left
 ·have hz:sizes1 M=false:=by have q0:=of_decide_eq_false d0; have q1:=of_decide_eq_false d1; have q2:=of_decide_eq_false d2; have q3:=of_decide_eq_false d3; have q4:=of_decide_eq_false d4; have q5:=of_decide_eq_true d5; unfold sizes1; rw [decide_eq_false_iff_not]; omega
  rw [hz]
  simp only [KK,Nat.reduceEqDiff,Nat.reduceAdd,Nat.reduceLeDiff,Nat.reduceLT,h2,h3,hP,d0,d1,d2,d3,d4,d5]
 have hz:sizes1 M=true:=by have q0:=of_decide_eq_false d0; have q1:=of_decide_eq_false d1; have q2:=of_decide_eq_false d2; have q3:=of_decide_eq_false d3; have q4:=of_decide_eq_false d4; have q5:=of_decide_eq_false d5; unfold sizes1; rw [decide_eq_true_iff]; omega
 rw [hz]
 simp only [KK,Nat.reduceEqDiff,Nat.reduceAdd,Nat.reduceLeDiff,Nat.reduceLT,h2,h3,hP,d0,d1,d2,d3,d4,d5]
theorem rins_run (N:Nat) (hN:2≤N) (m:Mem) (I:ImV) (M:Img) (hm:IM m I M) (f:Nat) (hf:f < M.funcs.length) (hlf:M.funcs.length≤100000) (x:II) (hab:-9223372036854775808≤x.a+x.b∧x.a+x.b≤9223372036854775807):run A N 128 [.agg (ic I M),.int .i64 (f:Int),.agg [.int .i64 x.op,.int .i64 x.a,.int .i64 x.b,.int .i64 x.c]] m=some (.bool (insP M f (fromP M f) (toP M f) x),m):=by
 obtain ⟨n,rfl⟩:∃ n,N=n+1:=⟨N - 1,by omega⟩
 have hP:=hm.pls
 have hsp:spanP M (f:Int)=(fromP M f,toP M f):=by
  unfold spanP
  rw [if_neg (by omega),Int.toNat_natCast]
 have hb:=span_run n (by omega) m I M hm (f:Int) (by omega)
 rw [hsp] at hb
 dsimp only at hb
 obtain ⟨op,a,b,c⟩:=x
 dsimp only at hab ⊢
 rw [run_128]
 unfold fnEv a128 insP
 dsimp only
 by_cases o1:op=1
 ·subst o1
  simp only [KK,Nat.reduceEqDiff,Int.reduceEq,Nat.reduceAdd,Nat.reduceLeDiff,Nat.reduceLT,AOp.kd,kd_rm,a128_R1,a128_R2,a128_R3,a128_R4,hb,hP,or_self]
 by_cases o4:op=4
 ·subst o4
  simp only [KK,Nat.reduceEqDiff,Int.reduceEq,Nat.reduceAdd,Nat.reduceLeDiff,Nat.reduceLT,AOp.kd,kd_rm,a128_R1,a128_R2,a128_R3,a128_R4,hb,hP,true_or,or_self]
 by_cases o5:op=5
 ·subst o5
  simp only [KK,Nat.reduceEqDiff,Int.reduceEq,Nat.reduceAdd,Nat.reduceLeDiff,Nat.reduceLT,AOp.kd,kd_rm,a128_R1,a128_R2,a128_R3,a128_R4,hb,hP,or_true,or_self]
 by_cases o6:op=6
 ·subst o6
  have a1:=add_ok a b hab.1 hab.2
  simp only [KK,Nat.reduceEqDiff,Int.reduceEq,Nat.reduceAdd,Nat.reduceLeDiff,Nat.reduceLT,AOp.kd,kd_rm,a128_R1,a128_R2,a128_R3,a128_R4,hb,hP,true_or,or_self,a1]
 by_cases o7:op=7
 ·subst o7
  have a1:=add_ok a b hab.1 hab.2
  simp only [KK,Nat.reduceEqDiff,Int.reduceEq,Nat.reduceAdd,Nat.reduceLeDiff,Nat.reduceLT,AOp.kd,kd_rm,a128_R1,a128_R2,a128_R3,a128_R4,hb,hP,or_true,or_self,a1]
 by_cases o8:op=8
 ·subst o8
  obtain ⟨y,hy⟩:∃ y,M.funcs[f]?=some y:=⟨_,List.getElem?_eq_getElem hf⟩
  obtain ⟨b2,o2,cs2,ow2,g1,g2,_,_,_,g3⟩:=hm.f.ff hy
  have hlo:localsP M f=y.locals:=by unfold localsP; rw [hy]; rfl
  simp only [KK,Nat.reduceEqDiff,Int.reduceEq,Nat.reduceAdd,Nat.reduceLeDiff,Nat.reduceLT,AOp.kd,kd_rm,logOk_nil',a128_R1,a128_R2,a128_R3,a128_R4,hb,hP,true_or,or_self,g1,g2,g3,hlo]
 by_cases o9:op=9
 ·subst o9
  obtain ⟨y,hy⟩:∃ y,M.funcs[f]?=some y:=⟨_,List.getElem?_eq_getElem hf⟩
  obtain ⟨b2,o2,cs2,ow2,g1,g2,_,_,_,g3⟩:=hm.f.ff hy
  have hlo:localsP M f=y.locals:=by unfold localsP; rw [hy]; rfl
  simp only [KK,Nat.reduceEqDiff,Int.reduceEq,Nat.reduceAdd,Nat.reduceLeDiff,Nat.reduceLT,AOp.kd,kd_rm,logOk_nil',a128_R1,a128_R2,a128_R3,a128_R4,hb,hP,or_true,or_self,g1,g2,g3,hlo]
 by_cases o10:op=10
 ·subst o10
  simp only [KK,Nat.reduceEqDiff,Int.reduceEq,Nat.reduceAdd,Nat.reduceLeDiff,Nat.reduceLT,AOp.kd,kd_rm,a128_R1,a128_R2,a128_R3,a128_R4,hb,hP,true_or,or_self]
 by_cases o11:op=11
 ·subst o11
  simp only [KK,Nat.reduceEqDiff,Int.reduceEq,Nat.reduceAdd,Nat.reduceLeDiff,Nat.reduceLT,AOp.kd,kd_rm,a128_R1,a128_R2,a128_R3,a128_R4,hb,hP,or_true,or_self]
 by_cases o15:op=15
 ·subst o15
  cases d1:decide (fromP M f≤a)
  ·simp only [KK,Nat.reduceEqDiff,Int.reduceEq,Nat.reduceAdd,Nat.reduceLeDiff,Nat.reduceLT,AOp.kd,kd_rm,a128_R1,a128_R2,a128_R3,a128_R4,hb,hP,true_or,or_self,d1]
  ·simp only [KK,Nat.reduceEqDiff,Int.reduceEq,Nat.reduceAdd,Nat.reduceLeDiff,Nat.reduceLT,AOp.kd,kd_rm,a128_R1,a128_R2,a128_R3,a128_R4,hb,hP,true_or,or_self,d1]
 by_cases o16:op=16
 ·subst o16
  cases d1:decide (fromP M f≤a)
  ·simp only [KK,Nat.reduceEqDiff,Int.reduceEq,Nat.reduceAdd,Nat.reduceLeDiff,Nat.reduceLT,AOp.kd,kd_rm,a128_R1,a128_R2,a128_R3,a128_R4,hb,hP,or_true,or_self,d1]
  ·simp only [KK,Nat.reduceEqDiff,Int.reduceEq,Nat.reduceAdd,Nat.reduceLeDiff,Nat.reduceLT,AOp.kd,kd_rm,a128_R1,a128_R2,a128_R3,a128_R4,hb,hP,or_true,or_self,d1]
 by_cases o17:op=17
 ·subst o17
  simp only [KK,Nat.reduceEqDiff,Int.reduceEq,Nat.reduceAdd,Nat.reduceLeDiff,Nat.reduceLT,AOp.kd,kd_rm,a128_R1,a128_R2,a128_R3,a128_R4,hb,hP,or_self]
 by_cases o23:op=23
 ·subst o23
  simp only [KK,Nat.reduceEqDiff,Int.reduceEq,Nat.reduceAdd,Nat.reduceLeDiff,Nat.reduceLT,AOp.kd,kd_rm,a128_R1,a128_R2,a128_R3,a128_R4,hb,hP,true_or,or_self]
 by_cases o24:op=24
 ·subst o24
  simp only [KK,Nat.reduceEqDiff,Int.reduceEq,Nat.reduceAdd,Nat.reduceLeDiff,Nat.reduceLT,AOp.kd,kd_rm,a128_R1,a128_R2,a128_R3,a128_R4,hb,hP,or_true,or_self]
 simp only [KK,Nat.reduceEqDiff,Nat.reduceAdd,Nat.reduceLeDiff,Nat.reduceLT,AOp.kd,kd_rm,a128_R1,a128_R2,a128_R3,a128_R4,hb,hP,o1,o4,o5,o6,o7,o8,o9,o10,o11,o15,o16,o17,o23,o24,or_self]
theorem n3:((3:Nat):Int)=3:=rfl
theorem hz1:zerosEv [AV.str ⟨#[]⟩] 1=[AV.str ⟨#[]⟩]:=rfl
theorem hz2 (x y:AV):[x].take 0++[y]++[x].drop (0+1)=[y]:=rfl
def strAt (l:List AV) (i:Nat):ByteArray:=match l[i]? with | some (.str s)=>s | _=>⟨#[]⟩
def signB (n:Nat):ByteArray:=strAt signs n
def unB (n:Nat):ByteArray:=if n=1 then ⟨#[110,101,103]⟩ else if n=2 then ⟨#[110,111,116]⟩ else if n=3 then ⟨#[122,101,114,111]⟩ else ⟨#[]⟩
theorem kx_range {op:Int} (h1:1≤op) (h2:op < 25) (j:Nat) (hj:j=1∨j=2∨j=3):0≤kx j op.toNat∧kx j op.toNat≤8:=by
 have hall:(List.range 25).all (fun i=>decide ((0≤kx 1 i∧kx 1 i≤8)∧(0≤kx 2 i∧kx 2 i≤8)∧(0≤kx 3 i∧kx 3 i≤8)))=true:=by decide +kernel
 have:=of_decide_eq_true (List.all_eq_true.1 hall op.toNat (List.mem_range.2 (by omega)))
 rcases hj with rfl | rfl | rfl
 ·exact this.1
 ·exact this.2.1
 ·exact this.2.2
def signI (x:Int):ByteArray:=if 1≤x∧x < 20 then signB x.toNat else ⟨#[]⟩
def unI (x:Int):ByteArray:=if 1≤x∧x < 4 then unB x.toNat else ⟨#[]⟩
def uns:List AV:=[.str ⟨#[]⟩,.str ⟨#[110,101,103]⟩,.str ⟨#[110,111,116]⟩,.str ⟨#[122,101,114,111]⟩]
theorem uns_at:∀ j,j < 4→uns[j]?=some (.str (unB j))
 | 0,_=>rfl
 | 1,_=>rfl
 | 2,_=>rfl
 | 3,_=>rfl
 | k+4,h=>absurd h (by omega)
theorem signs_at' (j:Nat) (h:j < 20):signs[j]?=some (.str (signB j)):=by
 obtain ⟨s,h1,_⟩:=signs_at j h
 rw [h1]
 unfold signB strAt
 rw [h1]
theorem sgn_fill0:fillEv (zerosEv [.str ⟨#[]⟩] (20*1)) [(0*1,1,(.str ⟨#[]⟩)),(1*1,1,(.str ⟨#[43]⟩)),(2*1,1,(.str ⟨#[45]⟩)),(3*1,1,(.str ⟨#[42]⟩)),(4*1,1,(.str ⟨#[47]⟩)),(5*1,1,(.str ⟨#[37]⟩)),(6*1,1,(.str ⟨#[115,47]⟩)),(7*1,1,(.str ⟨#[115,37]⟩)),(8*1,1,(.str ⟨#[38]⟩)),(9*1,1,(.str ⟨#[124]⟩)),(10*1,1,(.str ⟨#[94]⟩)),(11*1,1,(.str ⟨#[60,60]⟩)),(12*1,1,(.str ⟨#[62,62]⟩)),(13*1,1,(.str ⟨#[115,62,62]⟩)),(14*1,1,(.str ⟨#[61,61]⟩)),(15*1,1,(.str ⟨#[33,61]⟩)),(16*1,1,(.str ⟨#[60]⟩)),(17*1,1,(.str ⟨#[60,61]⟩)),(18*1,1,(.str ⟨#[115,60]⟩)),(19*1,1,(.str ⟨#[115,60,61]⟩))]=some signs:=by kernel_rfl
theorem sgn_fill' (call:Caller) (s:St):opEv call (.mkslc 1 20 [(.str ⟨#[]⟩)] [(0,(.val (.str ⟨#[]⟩))),(1,(.val (.str ⟨#[43]⟩))),(2,(.val (.str ⟨#[45]⟩))),(3,(.val (.str ⟨#[42]⟩))),(4,(.val (.str ⟨#[47]⟩))),(5,(.val (.str ⟨#[37]⟩))),(6,(.val (.str ⟨#[115,47]⟩))),(7,(.val (.str ⟨#[115,37]⟩))),(8,(.val (.str ⟨#[38]⟩))),(9,(.val (.str ⟨#[124]⟩))),(10,(.val (.str ⟨#[94]⟩))),(11,(.val (.str ⟨#[60,60]⟩))),(12,(.val (.str ⟨#[62,62]⟩))),(13,(.val (.str ⟨#[115,62,62]⟩))),(14,(.val (.str ⟨#[61,61]⟩))),(15,(.val (.str ⟨#[33,61]⟩))),(16,(.val (.str ⟨#[60]⟩))),(17,(.val (.str ⟨#[60,61]⟩))),(18,(.val (.str ⟨#[115,60]⟩))),(19,(.val (.str ⟨#[115,60,61]⟩)))]) s=if s.m.full then none else some (.slice s.m.n 0 20 (some 20) 1,{ s with m:=s.m.push (.cells signs true) }):=by
 rw [opE_mkslc,if_pos (by decide)]
 have h:=sgn_fill0
 simp only [List.map,St.opd]
 rw [h]
theorem sgn_run (N:Nat) (hN:1≤N) (x:Int) (m:Mem) (hmn:m.n+1≤2 ^ depth):run A N 126 [.int .i64 x] m=some (.str (signI x),m.push (.cells signs true)):=by
 obtain ⟨n,rfl⟩:∃ n,N=n+1:=⟨N - 1,by omega⟩
 have hf:m.full=false:=not_full (by omega)
 rw [run_126]
 unfold fnEv a126
 by_cases h1:x < 1
 ·have e:signI x=⟨#[]⟩:=if_neg (by omega)
  rw [e]
  simp only [KK,sgn_fill',Nat.reduceEqDiff,Nat.reduceAdd,Nat.reduceLT,hf,h1]
 ·by_cases h2:x ≥ ((20:Nat):Int)
  ·have e:signI x=⟨#[]⟩:=if_neg (by omega)
   rw [e]
   simp only [KK,sgn_fill',Nat.reduceEqDiff,Nat.reduceAdd,Nat.reduceLT,hf,h1,h2]
  ·have e:signI x=signB x.toNat:=if_pos (by omega)
   rw [e]
   have hb:0≤x∧x < ((20:Nat):Int):=by omega
   have hg:(m.push (.cells signs true)).get m.n=some (.cells signs true):=Mem.get_push_new _
   have hc:cellsAt signs (0+x.toNat*1) 1=some [.str (signB x.toNat)]:=by
    rw [Nat.zero_add,Nat.mul_one]
    exact cells_one (signs_at' _ (by omega))
   simp only [KK,sgn_fill',Nat.reduceEqDiff,Nat.reduceAdd,Nat.reduceLT,hf,h1,h2,hb,hg,hc]
theorem nam_fill0:fillEv (zerosEv [.str ⟨#[]⟩] (4*1)) [(0*1,1,(.str ⟨#[]⟩)),(1*1,1,(.str ⟨#[110,101,103]⟩)),(2*1,1,(.str ⟨#[110,111,116]⟩)),(3*1,1,(.str ⟨#[122,101,114,111]⟩))]=some uns:=by kernel_rfl
theorem nam_fill' (call:Caller) (s:St):opEv call (.mkslc 1 4 [(.str ⟨#[]⟩)] [(0,(.val (.str ⟨#[]⟩))),(1,(.val (.str ⟨#[110,101,103]⟩))),(2,(.val (.str ⟨#[110,111,116]⟩))),(3,(.val (.str ⟨#[122,101,114,111]⟩)))]) s=if s.m.full then none else some (.slice s.m.n 0 4 (some 4) 1,{ s with m:=s.m.push (.cells uns true) }):=by
 rw [opE_mkslc,if_pos (by decide)]
 have h:=nam_fill0
 simp only [List.map,St.opd]
 rw [h]
theorem nam_run (N:Nat) (hN:1≤N) (x:Int) (m:Mem) (hmn:m.n+1≤2 ^ depth):run A N 127 [.int .i64 x] m=some (.str (unI x),m.push (.cells uns true)):=by
 obtain ⟨n,rfl⟩:∃ n,N=n+1:=⟨N - 1,by omega⟩
 have hf:m.full=false:=not_full (by omega)
 rw [run_127]
 unfold fnEv a127
 by_cases h1:x < 1
 ·have e:unI x=⟨#[]⟩:=if_neg (by omega)
  rw [e]
  simp only [KK,nam_fill',Nat.reduceEqDiff,Nat.reduceAdd,Nat.reduceLT,hf,h1]
 ·by_cases h2:x ≥ ((4:Nat):Int)
  ·have e:unI x=⟨#[]⟩:=if_neg (by omega)
   rw [e]
   simp only [KK,nam_fill',Nat.reduceEqDiff,Nat.reduceAdd,Nat.reduceLT,hf,h1,h2]
  ·have e:unI x=unB x.toNat:=if_pos (by omega)
   rw [e]
   have hb:0≤x∧x < ((4:Nat):Int):=by omega
   have hg:(m.push (.cells uns true)).get m.n=some (.cells uns true):=Mem.get_push_new _
   have hc:cellsAt uns (0+x.toNat*1) 1=some [.str (unB x.toNat)]:=by
    rw [Nat.zero_add,Nat.mul_one]
    exact cells_one (uns_at _ (by omega))
   simp only [KK,nam_fill',Nat.reduceEqDiff,Nat.reduceAdd,Nat.reduceLT,hf,h1,h2,hb,hg,hc]
def refK (w:Int):Int:=if w=0 then 0 else if w=1 then 2 else if w=2 then 1 else if w=3 then 4 else if w=4 then 3 else if w=5 then 7 else if w=6 then 8 else if w=7 then 5 else 6
def hR (j:Nat) (op:Int):Int:=if 1≤op∧op < 25 then refK (kx j op.toNat) else 0
theorem has_in (n:Nat) (m:Mem):∀ k:Nat,k < 25→run A (n+1) 106 [.int .i64 (k:Int)] m=some (.agg [.int .i64 (hR 1 k),.int .i64 (hR 2 k),.int .i64 (hR 3 k)],m)
 | 0,_=>by kernel_rfl
 | 1,_=>by kernel_rfl
 | 2,_=>by kernel_rfl
 | 3,_=>by kernel_rfl
 | 4,_=>by kernel_rfl
 | 5,_=>by kernel_rfl
 | 6,_=>by kernel_rfl
 | 7,_=>by kernel_rfl
 | 8,_=>by kernel_rfl
 | 9,_=>by kernel_rfl
 | 10,_=>by kernel_rfl
 | 11,_=>by kernel_rfl
 | 12,_=>by kernel_rfl
 | 13,_=>by kernel_rfl
 | 14,_=>by kernel_rfl
 | 15,_=>by kernel_rfl
 | 16,_=>by kernel_rfl
 | 17,_=>by kernel_rfl
 | 18,_=>by kernel_rfl
 | 19,_=>by kernel_rfl
 | 20,_=>by kernel_rfl
 | 21,_=>by kernel_rfl
 | 22,_=>by kernel_rfl
 | 23,_=>by kernel_rfl
 | 24,_=>by kernel_rfl
 | k+25,h=>absurd h (by omega)
theorem rhas_run (N:Nat) (hN:1≤N) (op:Int) (m:Mem):run A N 106 [.int .i64 op] m=some (.agg [.int .i64 (hR 1 op),.int .i64 (hR 2 op),.int .i64 (hR 3 op)],m):=by
 obtain ⟨n,rfl⟩:∃ n,N=n+1:=⟨N - 1,by omega⟩
 by_cases h:0≤op∧op < 25
 ·have:=has_in n m op.toNat (by omega)
  have e:(op.toNat:Int)=op:=by omega
  rw [e] at this
  exact this
 ·have hz:∀ j,hR j op=0:=fun j=>if_neg (by omega)
  rw [hz,hz,hz,run_106]
  unfold fnEv a106
  have h2:¬op=2:=by omega
  have h4:¬op=4:=by omega
  have h8:¬op=8:=by omega
  have h10:¬op=10:=by omega
  have h11:¬op=11:=by omega
  have h15:¬op=15:=by omega
  have h16:¬op=16:=by omega
  have h17:¬op=17:=by omega
  have h23:¬op=23:=by omega
  have h24:¬op=24:=by omega
  have h5:¬op=5:=by omega
  have h9:¬op=9:=by omega
  have h6:¬op=6:=by omega
  have h7:¬op=7:=by omega
  have h12:¬op=12:=by omega
  have h13:¬op=13:=by omega
  have h14:¬op=14:=by omega
  have h19:¬op=19:=by omega
  have h20:¬op=20:=by omega
  have h21:¬op=21:=by omega
  simp only [KK,Nat.reduceEqDiff,Nat.reduceAdd,Nat.reduceLeDiff,Nat.reduceLT,h2,h4,h8,h10,h11,h15,h16,h17,h23,h24,h5,h9,h6,h7,h12,h13,h14,h19,h20,h21]
theorem signI_ne (x:Int):(!((signI x).toList == (ByteArray.mk #[]).toList))=(decide (1≤x)&&decide (x≤19)):=by
 unfold signI
 by_cases h:1≤x∧x < 20
 ·rw [if_pos h]
  obtain ⟨s,h1,h2⟩:=signs_at x.toNat (by omega)
  have e:signB x.toNat=s:=by unfold signB strAt; rw [h1]
  unfold isNo at h2
  rw [e,h2,decide_eq_false (by omega),decide_eq_true h.1,decide_eq_true (by omega:x≤19)]
  rfl
 ·rw [if_neg h]
  have:(decide (1≤x)&&decide (x≤19))=false:=by
   simp only [Bool.and_eq_false_iff,decide_eq_false_iff_not]; omega
  rw [this]
  decide +kernel
theorem unI_ne (x:Int):(!((unI x).toList == (ByteArray.mk #[]).toList))=(decide (1≤x)&&decide (x≤3)):=by
 unfold unI
 by_cases h:1≤x∧x < 4
 ·rw [if_pos h]
  have hh:x=1∨x=2∨x=3:=by omega
  rcases hh with rfl | rfl | rfl <;> decide +kernel
 ·rw [if_neg h]
  have:(decide (1≤x)&&decide (x≤3))=false:=by
   simp only [Bool.and_eq_false_iff,decide_eq_false_iff_not]; omega
  rw [this]
  decide +kernel
theorem may_0 (n:Nat) (x:Int) (m:Mem) (_hmn:m.n+1≤2 ^ depth):∃ m',run A (n+2) 107 [.int .i64 0,.int .i64 x] m=some (.bool (fitsI 0 x),m')∧Gr m m' 1:=by
 by_cases q1:x=0
 ·have q1':=eq_true q1
  refine ⟨m,?_,(Gr.refl m).le (by omega)⟩
  have hF:fitsI 0 x=true:=by simp [fitsI]; omega
  rw [hF,run_107]
  unfold fnEv a107
  simp only [KK,Nat.reduceEqDiff,Int.reduceEq,Nat.reduceAdd,Nat.reduceLT,q1']
 ·refine ⟨m,?_,(Gr.refl m).le (by omega)⟩
  have hF:fitsI 0 x=false:=by simp [fitsI]; omega
  rw [hF,run_107]
  unfold fnEv a107
  simp only [KK,Nat.reduceEqDiff,Int.reduceEq,Nat.reduceAdd,Nat.reduceLT,q1]
theorem may_1 (n:Nat) (x:Int) (m:Mem) (_hmn:m.n+1≤2 ^ depth):∃ m',run A (n+2) 107 [.int .i64 2,.int .i64 x] m=some (.bool (fitsI 1 x),m')∧Gr m m' 1:=by
 by_cases q1:x ≥ 0
 ·by_cases q2:x≤1048576
  ·refine ⟨m,?_,(Gr.refl m).le (by omega)⟩
   have hF:fitsI 1 x=true:=by simp [fitsI]; omega
   rw [hF,run_107]
   unfold fnEv a107
   simp only [KK,Nat.reduceEqDiff,Int.reduceEq,Nat.reduceAdd,Nat.reduceLT,q1,q2]
  ·refine ⟨m,?_,(Gr.refl m).le (by omega)⟩
   have hF:fitsI 1 x=false:=by simp [fitsI]; omega
   rw [hF,run_107]
   unfold fnEv a107
   simp only [KK,Nat.reduceEqDiff,Int.reduceEq,Nat.reduceAdd,Nat.reduceLT,q1,q2]
 ·refine ⟨m,?_,(Gr.refl m).le (by omega)⟩
  have hF:fitsI 1 x=false:=by simp [fitsI]; omega
  rw [hF,run_107]
  unfold fnEv a107
  simp only [KK,Nat.reduceEqDiff,Int.reduceEq,Nat.reduceAdd,Nat.reduceLT,q1]
theorem may_2 (n:Nat) (x:Int) (m:Mem) (_hmn:m.n+1≤2 ^ depth):∃ m',run A (n+2) 107 [.int .i64 1,.int .i64 x] m=some (.bool (fitsI 2 x),m')∧Gr m m' 1:=by
 by_cases q1:x ≥ 0
 ·by_cases q2:x < 4294967296
  ·refine ⟨m,?_,(Gr.refl m).le (by omega)⟩
   have hF:fitsI 2 x=true:=by simp [fitsI]; omega
   rw [hF,run_107]
   unfold fnEv a107
   simp only [KK,Nat.reduceEqDiff,Int.reduceEq,Nat.reduceAdd,Nat.reduceLT,q1,q2]
  ·refine ⟨m,?_,(Gr.refl m).le (by omega)⟩
   have hF:fitsI 2 x=false:=by simp [fitsI]; omega
   rw [hF,run_107]
   unfold fnEv a107
   simp only [KK,Nat.reduceEqDiff,Int.reduceEq,Nat.reduceAdd,Nat.reduceLT,q1,q2]
 ·refine ⟨m,?_,(Gr.refl m).le (by omega)⟩
  have hF:fitsI 2 x=false:=by simp [fitsI]; omega
  rw [hF,run_107]
  unfold fnEv a107
  simp only [KK,Nat.reduceEqDiff,Int.reduceEq,Nat.reduceAdd,Nat.reduceLT,q1]
theorem may_3 (n:Nat) (x:Int) (m:Mem) (_hmn:m.n+1≤2 ^ depth):∃ m',run A (n+2) 107 [.int .i64 4,.int .i64 x] m=some (.bool (fitsI 3 x),m')∧Gr m m' 1:=by
 by_cases q1:x=8
 ·have q1':=eq_true q1
  refine ⟨m,?_,(Gr.refl m).le (by omega)⟩
  have hF:fitsI 3 x=true:=by simp [fitsI]; omega
  rw [hF,run_107]
  unfold fnEv a107
  simp only [KK,Nat.reduceEqDiff,Int.reduceEq,Nat.reduceAdd,Nat.reduceLT,q1']
 ·by_cases q2:x=16
  ·have q2':=eq_true q2
   refine ⟨m,?_,(Gr.refl m).le (by omega)⟩
   have hF:fitsI 3 x=true:=by simp [fitsI]; omega
   rw [hF,run_107]
   unfold fnEv a107
   simp only [KK,Nat.reduceEqDiff,Int.reduceEq,Nat.reduceAdd,Nat.reduceLT,q1,q2']
  ·by_cases q3:x=32
   ·have q3':=eq_true q3
    refine ⟨m,?_,(Gr.refl m).le (by omega)⟩
    have hF:fitsI 3 x=true:=by simp [fitsI]; omega
    rw [hF,run_107]
    unfold fnEv a107
    simp only [KK,Nat.reduceEqDiff,Int.reduceEq,Nat.reduceAdd,Nat.reduceLT,q1,q2,q3']
   ·refine ⟨m,?_,(Gr.refl m).le (by omega)⟩
    have hF:fitsI 3 x=false:=by simp [fitsI]; omega
    rw [hF,run_107]
    unfold fnEv a107
    simp only [KK,Nat.reduceEqDiff,Int.reduceEq,Nat.reduceAdd,Nat.reduceLT,q1,q2,q3]
theorem may_4 (n:Nat) (x:Int) (m:Mem) (_hmn:m.n+1≤2 ^ depth):∃ m',run A (n+2) 107 [.int .i64 3,.int .i64 x] m=some (.bool (fitsI 4 x),m')∧Gr m m' 1:=by
 by_cases q1:x ≥ 1
 ·by_cases q2:x≤1048576
  ·refine ⟨m,?_,(Gr.refl m).le (by omega)⟩
   have hF:fitsI 4 x=true:=by simp [fitsI]; omega
   rw [hF,run_107]
   unfold fnEv a107
   simp only [KK,Nat.reduceEqDiff,Int.reduceEq,Nat.reduceAdd,Nat.reduceLT,q1,q2]
  ·refine ⟨m,?_,(Gr.refl m).le (by omega)⟩
   have hF:fitsI 4 x=false:=by simp [fitsI]; omega
   rw [hF,run_107]
   unfold fnEv a107
   simp only [KK,Nat.reduceEqDiff,Int.reduceEq,Nat.reduceAdd,Nat.reduceLT,q1,q2]
 ·refine ⟨m,?_,(Gr.refl m).le (by omega)⟩
  have hF:fitsI 4 x=false:=by simp [fitsI]; omega
  rw [hF,run_107]
  unfold fnEv a107
  simp only [KK,Nat.reduceEqDiff,Int.reduceEq,Nat.reduceAdd,Nat.reduceLT,q1]
theorem may_5 (n:Nat) (x:Int) (m:Mem) (_hmn:m.n+1≤2 ^ depth):∃ m',run A (n+2) 107 [.int .i64 7,.int .i64 x] m=some (.bool (fitsI 5 x),m')∧Gr m m' 1:=by
 by_cases q1:x ≥ 0
 ·by_cases q2:x≤31
  ·refine ⟨m,?_,(Gr.refl m).le (by omega)⟩
   have hF:fitsI 5 x=true:=by simp [fitsI]; omega
   rw [hF,run_107]
   unfold fnEv a107
   simp only [KK,Nat.reduceEqDiff,Int.reduceEq,Nat.reduceAdd,Nat.reduceLT,q1,q2]
  ·refine ⟨m,?_,(Gr.refl m).le (by omega)⟩
   have hF:fitsI 5 x=false:=by simp [fitsI]; omega
   rw [hF,run_107]
   unfold fnEv a107
   simp only [KK,Nat.reduceEqDiff,Int.reduceEq,Nat.reduceAdd,Nat.reduceLT,q1,q2]
 ·refine ⟨m,?_,(Gr.refl m).le (by omega)⟩
  have hF:fitsI 5 x=false:=by simp [fitsI]; omega
  rw [hF,run_107]
  unfold fnEv a107
  simp only [KK,Nat.reduceEqDiff,Int.reduceEq,Nat.reduceAdd,Nat.reduceLT,q1]
theorem may_6 (n:Nat) (x:Int) (m:Mem) (_hmn:m.n+1≤2 ^ depth):∃ m',run A (n+2) 107 [.int .i64 8,.int .i64 x] m=some (.bool (fitsI 6 x),m')∧Gr m m' 1:=by
 by_cases q1:x ≥ 0
 ·by_cases q2:x≤15
  ·refine ⟨m,?_,(Gr.refl m).le (by omega)⟩
   have hF:fitsI 6 x=true:=by simp [fitsI]; omega
   rw [hF,run_107]
   unfold fnEv a107
   simp only [KK,Nat.reduceEqDiff,Int.reduceEq,Nat.reduceAdd,Nat.reduceLT,q1,q2]
  ·refine ⟨m,?_,(Gr.refl m).le (by omega)⟩
   have hF:fitsI 6 x=false:=by simp [fitsI]; omega
   rw [hF,run_107]
   unfold fnEv a107
   simp only [KK,Nat.reduceEqDiff,Int.reduceEq,Nat.reduceAdd,Nat.reduceLT,q1,q2]
 ·refine ⟨m,?_,(Gr.refl m).le (by omega)⟩
  have hF:fitsI 6 x=false:=by simp [fitsI]; omega
  rw [hF,run_107]
  unfold fnEv a107
  simp only [KK,Nat.reduceEqDiff,Int.reduceEq,Nat.reduceAdd,Nat.reduceLT,q1]
theorem may_7 (n:Nat) (x:Int) (m:Mem) (hmn:m.n+1≤2 ^ depth):∃ m',run A (n+2) 107 [.int .i64 5,.int .i64 x] m=some (.bool (fitsI 7 x),m')∧Gr m m' 1:=by
 have c:=sgn_run (n+1) (by omega) x m hmn
 have e:=signI_ne x
 refine ⟨_,?_,Gr.push m (.cells signs true) (by omega)⟩
 have hF:fitsI 7 x=(decide (1≤x)&&decide (x≤19)):=rfl
 rw [hF,run_107]
 unfold fnEv a107
 simp only [KK,Nat.reduceEqDiff,Int.reduceEq,Nat.reduceAdd,Nat.reduceLT,c,e]
theorem may_8 (n:Nat) (x:Int) (m:Mem) (hmn:m.n+1≤2 ^ depth):∃ m',run A (n+2) 107 [.int .i64 6,.int .i64 x] m=some (.bool (fitsI 8 x),m')∧Gr m m' 1:=by
 have c:=nam_run (n+1) (by omega) x m hmn
 have e:=unI_ne x
 refine ⟨_,?_,Gr.push m (.cells uns true) (by omega)⟩
 have hF:fitsI 8 x=(decide (1≤x)&&decide (x≤3)):=rfl
 rw [hF,run_107]
 unfold fnEv a107
 simp only [KK,Nat.reduceEqDiff,Int.reduceEq,Nat.reduceAdd,Nat.reduceLT,c,e]
theorem may_run (N:Nat) (hN:2≤N) (k x:Int) (hk:0≤k∧k≤8) (m:Mem) (hmn:m.n+1≤2 ^ depth):∃ m',run A N 107 [.int .i64 (refK k),.int .i64 x] m=some (.bool (fitsI k x),m')∧Gr m m' 1:=by
 obtain ⟨n,rfl⟩:∃ n,N=n+2:=⟨N - 2,by omega⟩
 have h:k=0∨k=1∨k=2∨k=3∨k=4∨k=5∨k=6∨k=7∨k=8:=by omega
 rcases h with rfl | rfl | rfl | rfl | rfl | rfl | rfl | rfl | rfl
 ·exact may_0 n x m hmn
 ·exact may_1 n x m hmn
 ·exact may_2 n x m hmn
 ·exact may_3 n x m hmn
 ·exact may_4 n x m hmn
 ·exact may_5 n x m hmn
 ·exact may_6 n x m hmn
 ·exact may_7 n x m hmn
 ·exact may_8 n x m hmn
theorem hR_in {op:Int} (j:Nat) (h1:1≤op) (h2:op < 25):hR j op=refK (kx j op.toNat):=if_pos ⟨h1,h2⟩
theorem rcheck_run (N:Nat) (hN:4≤N) (op a b c:Int) (m:Mem) (hmn:m.n+3≤2 ^ depth):∃ m',run A N 63 [.agg [.int .i64 op,.int .i64 a,.int .i64 b,.int .i64 c]] m=some (.int .i64 (if codeOk op a b c then 0 else 2),m')∧Gr m m' 3:=by
 obtain ⟨n,rfl⟩:∃ n,N=n+1:=⟨N - 1,by omega⟩
 have hh:=rhas_run n (by omega) op m
 by_cases h1:op < 1
 ·have hk:codeOk op a b c=false:=by unfold codeOk; rw [decide_eq_false (by omega)]; rfl
  rw [hk,run_63]
  refine ⟨m,?_,(Gr.refl m).le (by omega)⟩
  unfold fnEv a63
  simp only [KK,Nat.reduceEqDiff,Nat.reduceAdd,Nat.reduceLeDiff,Nat.reduceLT,hh,h1]
 by_cases h2:op > 24
 ·have hk:codeOk op a b c=false:=by unfold codeOk; rw [decide_eq_true (by omega:1≤op),decide_eq_false (by omega:¬op < 25)]; rfl
  rw [hk,run_63]
  refine ⟨m,?_,(Gr.refl m).le (by omega)⟩
  unfold fnEv a63
  simp only [KK,Nat.reduceEqDiff,Nat.reduceAdd,Nat.reduceLeDiff,Nat.reduceLT,hh,h1,h2]
 have hop:1≤op∧op < 25:=by omega
 have hk:codeOk op a b c=(fitsI (kx 1 op.toNat) a&&(fitsI (kx 2 op.toNat) b&&fitsI (kx 3 op.toNat) c)):=by
  unfold codeOk; rw [decide_eq_true hop.1,decide_eq_true hop.2]; rfl
 obtain ⟨m1,c1,g1⟩:=may_run n (by omega) (kx 1 op.toNat) a (kx_range hop.1 hop.2 1 (by simp)) m (by omega)
 rw [←hR_in 1 hop.1 hop.2] at c1
 cases f1:fitsI (kx 1 op.toNat) a
 ·rw [f1] at c1
  rw [hk,f1,run_63]
  refine ⟨m1,?_,g1.le (by omega)⟩
  unfold fnEv a63
  simp only [KK,Nat.reduceEqDiff,Int.reduceLT,Int.reduceLE,Nat.reduceAdd,Nat.reduceLeDiff,Nat.reduceLT,n3,opE_iaddrA,iaR_loc,hh,h1,h2,c1]
 rw [f1] at c1
 obtain ⟨m2,c2,g2⟩:=may_run n (by omega) (kx 2 op.toNat) b (kx_range hop.1 hop.2 2 (by simp)) m1 (by have:=g1.2; omega)
 rw [←hR_in 2 hop.1 hop.2] at c2
 have g12:=g1.trans g2
 cases f2:fitsI (kx 2 op.toNat) b
 ·rw [f2] at c2
  rw [hk,f1,f2,run_63]
  refine ⟨m2,?_,g12.le (by omega)⟩
  unfold fnEv a63
  simp only [KK,Nat.reduceEqDiff,Int.reduceLT,Int.reduceLE,Nat.reduceAdd,Nat.reduceLeDiff,Nat.reduceLT,Int.reduceToNat,n3,opE_iaddrA,iaR_loc,hh,h1,h2,c1,c2]
 rw [f2] at c2
 obtain ⟨m3,c3,g3⟩:=may_run n (by omega) (kx 3 op.toNat) c (kx_range hop.1 hop.2 3 (by simp)) m2 (by have:=g12.2; omega)
 rw [←hR_in 3 hop.1 hop.2] at c3
 have g123:=g12.trans g3
 refine ⟨m3,?_,g123.le (by omega)⟩
 rw [hk,f1,f2,run_63]
 cases f3:fitsI (kx 3 op.toNat) c
 ·rw [f3] at c3
  unfold fnEv a63
  simp only [KK,Nat.reduceEqDiff,Int.reduceLT,Int.reduceLE,Nat.reduceAdd,Nat.reduceLeDiff,Nat.reduceLT,Nat.reduceMul,Int.reduceToNat,n3,opE_iaddrA,iaR_loc,hh,h1,h2,c1,c2,c3]
 ·rw [f3] at c3
  unfold fnEv a63
  simp only [KK,Nat.reduceEqDiff,Int.reduceLT,Int.reduceLE,Nat.reduceAdd,Nat.reduceLeDiff,Nat.reduceLT,Nat.reduceMul,Int.reduceToNat,n3,opE_iaddrA,iaR_loc,hh,h1,h2,c1,c2,c3]
theorem seg_at {l:List II} {fr te i:Nat} {x:II} (h:((l.drop fr).take (te - fr))[i]?=some x):l[fr+i]?=some x∧fr+i < te:=by
 rw [List.getElem?_take] at h
 split at h
 ·rw [List.getElem?_drop] at h
  exact ⟨h,by omega⟩
 ·simp at h
theorem rbody_step (m0 m:Mem) (I:ImV) (M:Img) (hm:IM m I M) (k:Nat) (hg:Gr m0 m k) (f _fr te:Nat) (hf:f < M.funcs.length) (hlf:M.funcs.length≤100000) (hl:M.code.length≤100000) (hmn:m.n+3≤2 ^ depth) (N i:Nat) (x:II) (hN:4≤N) (hx:M.code[i]?=some x) (hi:i < te) (T:List (Nat×AV)) (L:List (Nat×List AV)) (hk:keepT [1,2,7,8] [2] T=[(1,.int .i64 (f:Int)),(2,.loc 2 0),(7,.int .i64 (te:Int)),(8,.int .i64 (i:Int))]) (hL:lookL L 2=some (ic I M)) (again:AC→St→Option (Ex×St)):
  (codeP M f (fromP M f) (toP M f) 0 x=true∧∃ T' L' m',codeEv (run A N) again a111_B1 ⟨93,T,L,m⟩=some (.norm,⟨93,T',L',m'⟩)∧keepT [1,2,7,8] [2] T'=[(1,.int .i64 (f:Int)),(2,.loc 2 0),(7,.int .i64 (te:Int)),(8,.int .i64 ((i+1:Nat):Int))]∧lookL L' 2=some (ic I M)∧Gr m0 m' (k+3))∨(codeP M f (fromP M f) (toP M f) 0 x=false∧∃ T' L' m',codeEv (run A N) again a111_B1 ⟨93,T,L,m⟩=some (.ret,⟨93,T',L',m'⟩)∧look T' 4=.bool false∧Gr m0 m' (k+3)):=by
 have hP:=hm.pls
 have hlt:=(List.getElem?_eq_some_iff.1 hx).1
 have h':(i:Int) < (te:Int):=by omega
 obtain ⟨b,o,cs,ow,e1,e2,e3,_⟩:=hm.c.ii hx
 have a1:=add_i i (by omega)
 obtain ⟨m',hc,hg'⟩:=rcheck_run N hN x.op x.a x.b x.c m hmn
 have hm':=hm.ext hg'.1
 have e2':=(hg'.1.2 b (Mem.get_lt e2)).trans e2
 have hgg:=hg.trans hg'
 unfold a111_B1
 cases hk0:codeOk x.op x.a x.b x.c
 ·rw [hk0] at hc
  simp only [Bool.false_eq_true,if_false] at hc
  exact .inr ⟨by simp only [codeP,hk0,Bool.false_and],_,_,_,by simp only [KK,Nat.reduceEqDiff,Int.reduceEq,Nat.reduceAdd,Nat.reduceLeDiff,Nat.reduceLT,AOp.kd,kd_rm,logOk_nil',a111_R3,hk,hL,h',e1,e2,e3,hc]; rfl,by simp only [look_set,if_true],hgg⟩
 ·rw [hk0] at hc
  simp only [if_true] at hc
  have hs:=codeOk_small hk0
  have hi:=rins_run N (by omega) m' I M hm' f hf hlf x (by omega)
  cases hp:insP M f (fromP M f) (toP M f) x
  ·rw [hp] at hi
   exact .inr ⟨by simp only [codeP,hk0,hp,Bool.true_and],_,_,_,by simp only [KK,Nat.reduceEqDiff,Nat.reduceAdd,Nat.reduceLeDiff,Nat.reduceLT,AOp.kd,kd_rm,logOk_nil',a111_R3,hk,hL,h',e1,e2,e2',e3,hc,hi]; rfl,by simp only [look_set,if_true],hgg⟩
  ·rw [hp] at hi
   exact .inl ⟨by simp only [codeP,hk0,hp,Bool.true_and],_,_,_,by simp only [KK,Nat.reduceEqDiff,Nat.reduceAdd,Nat.reduceLeDiff,Nat.reduceLT,AOp.kd,kd_rm,logOk_nil',a111_R3,hk,hL,h',e1,e2,e2',e3,a1,hc,hi]; rfl,by simp only [keepT,List.map,look_set,look_cons,in_int,in_loc,Nat.reduceEqDiff,if_true,if_false,List.contains_cons,List.contains_nil,beq_self_eq_true,Bool.or_false],by simp only [lookL_cons,if_true],hgg⟩
theorem rbody_loop (m:Mem) (I:ImV) (M:Img) (hm:IM m I M) (f fr te:Nat) (hf:f < M.funcs.length) (hlf:M.funcs.length≤100000) (hl:M.code.length≤100000) (h1:fr≤te) (h2:te≤M.code.length) (hmn:m.n+3*M.code.length≤2 ^ depth) (N:Nat) (T:List (Nat×AV)) (L:List (Nat×List AV)) (hN:M.code.length+4≤N) (hk:keepT [1,2,7,8] [2] T=[(1,.int .i64 (f:Int)),(2,.loc 2 0),(7,.int .i64 (te:Int)),(8,.int .i64 (fr:Int))]) (hL:lookL L 2=some (ic I M)) {q:Option (Ex×St)} (hq:codeEv (run A N) (ev A N).2 a111_L1 ⟨93,T,L,m⟩=q):
  ∃ T' L' m',(allI (codeP M f (fromP M f) (toP M f)) ((M.code.drop fr).take (te - fr)) 0=true∧q=some (.exit 0,⟨93,T',L',m'⟩)∧keepT [2,7] [2] T'=[(2,.loc 2 0),(7,.int .i64 (te:Int))]∧lookL L' 2=some (ic I M)∧Gr m m' (3*M.code.length))∨(allI (codeP M f (fromP M f) (toP M f)) ((M.code.drop fr).take (te - fr)) 0=false∧q=some (.ret,⟨93,T',L',m'⟩)∧look T' 4=.bool false∧Gr m m' (3*M.code.length)):=by
 have hll:((M.code.drop fr).take (te - fr)).length=te - fr:=by rw [List.length_take,List.length_drop]; omega
 have h:=scan0 (A:=A) a111_L1 a111_B1 a111_L1_step (fun i (_:Unit) s=>∃ T L m',s=⟨93,T,L,m'⟩∧keepT [1,2,7,8] [2] T=[(1,.int .i64 (f:Int)),(2,.loc 2 0),(7,.int .i64 (te:Int)),(8,.int .i64 ((fr+i:Nat):Int))]∧lookL L 2=some (ic I M)∧Gr m m' (3*i)∧i≤te - fr) (fun _ s=>∃ T' L' m',s=⟨93,T',L',m'⟩∧keepT [2,7] [2] T'=[(2,.loc 2 0),(7,.int .i64 (te:Int))]∧lookL L' 2=some (ic I M)∧Gr m m' (3*M.code.length)) (fun (_:Unit) s=>∃ T L m',s=⟨93,T,L,m'⟩∧look T 4=.bool false∧Gr m m' (3*M.code.length)) 0 4 (allS (codeP M f (fromP M f) (toP M f))) ((M.code.drop fr).take (te - fr))
  (fun N b s hN ⟨T,L,m',hs,hk,hL,hg,_⟩=>by
   subst hs
   rw [hll] at hk hg
   have h':¬((fr+(te - fr):Nat):Int) < (te:Int):=by omega
   unfold a111_B1
   exact ⟨_,by simp only [KK,Nat.reduceEqDiff,Nat.reduceLT,hk,hL,h']; rfl,_,_,_,rfl,by simp only [keepT,List.map,look_set,look_cons,in_int,in_loc,Nat.reduceEqDiff,if_true,if_false,List.contains_cons,List.contains_nil,beq_self_eq_true,Bool.or_false],by simp only [lookL_cons,if_true],hg.le (by omega)⟩)
  (fun N i x b s hN hx ⟨T,L,m',hs,hk,hL,hg,hi⟩=>by
   subst hs
   obtain ⟨hx1,hx2⟩:=seg_at hx
   have hlt:=(List.getElem?_eq_some_iff.1 hx).1
   rw [hll] at hlt
   have hn:=hg.2
   unfold allS
   rcases rbody_step m m' I M (hm.ext hg.1) _ hg f fr te hf hlf hl (by omega) N (fr+i) x hN hx1 hx2 T L hk hL (ev A N).2 with ⟨h1,T',L',m2,e1,e2,e3,e4⟩ | ⟨h1,T',L',m2,e1,e2,e4⟩
   ·have h1':codeP M f (fromP M f) (toP M f) i x=true:=h1
    rw [if_pos h1']
    exact ⟨_,e1,_,_,_,rfl,e2,e3,e4.le (by omega),by omega⟩
   ·have h1':codeP M f (fromP M f) (toP M f) i x=false:=h1
    rw [if_neg (by rw [h1']; simp)]
    exact ⟨_,e1,_,_,_,rfl,e2,e4.le (by omega)⟩)
  N () ⟨93,T,L,m⟩ (by omega) ⟨T,L,m,rfl,hk,hL,(Gr.refl m).le (by omega),by omega⟩ hq
 rw [fold_all] at h
 cases hall:allI (codeP M f (fromP M f) (toP M f)) ((M.code.drop fr).take (te - fr)) 0
 ·rw [hall] at h
  obtain ⟨s',e,T',L',m',rfl,h2,h3⟩:=h
  exact ⟨T',L',m',.inr ⟨rfl,e,h2,h3⟩⟩
 ·rw [hall] at h
  obtain ⟨s',e,T',L',m',rfl,h2,h3,h4⟩:=h
  exact ⟨T',L',m',.inl ⟨rfl,e,h2,h3,h4⟩⟩
def rfuncP (M:Img) (f:Nat) (x:FF):Bool:=!decide (fromP M f < 0)&&(!decide (toP M f≤fromP M f)&&(!decide ((M.code.length:Int) < toP M f)&&(!decide (x.params < 0)&&(!decide (x.locals < x.params)&&!decide (64 < x.locals)))))
theorem rbody_run (N:Nat) (m:Mem) (I:ImV) (M:Img) (hm:IM m I M) (f:Nat) (x:FF) (hx:M.funcs[f]?=some x) (hlf:M.funcs.length≤100000) (hl:M.code.length≤100000) (hmn:m.n+3*M.code.length≤2 ^ depth) (hN:M.code.length+6≤N):∃ m',run A N 111 [.agg (ic I M),.int .i64 (f:Int)] m=some (.bool (rfuncP M f x&&bodyP M f x),m')∧Gr m m' (3*M.code.length):=by
 obtain ⟨n,rfl⟩:∃ n,N=n+1:=⟨N - 1,by omega⟩
 have hP:=hm.pls
 have hf:=(List.getElem?_eq_some_iff.1 hx).1
 have hsp:spanP M (f:Int)=(fromP M f,toP M f):=by
  unfold spanP
  rw [if_neg (by omega),Int.toNat_natCast]
 have hb:=span_run n (by omega) m I M hm (f:Int) (by omega)
 rw [hsp] at hb
 dsimp only at hb
 obtain ⟨b,o,cs,ow,e1,e2,e3,_⟩:=hm.f.ff hx
 rw [run_111]
 unfold fnEv a111 rfuncP
 cases d0:decide (fromP M f < 0)
 rotate_left
 ·refine ⟨m,?_,(Gr.refl m).le (by omega)⟩
  simp only [KK,Nat.reduceEqDiff,Nat.reduceAdd,Nat.reduceLeDiff,Nat.reduceLT,a111_R1,a111_R2,hb,e1,e2,e3,d0]
 cases d1:decide (toP M f≤fromP M f)
 rotate_left
 ·refine ⟨m,?_,(Gr.refl m).le (by omega)⟩
  simp only [KK,Nat.reduceEqDiff,Nat.reduceAdd,Nat.reduceLeDiff,Nat.reduceLT,a111_R1,a111_R2,hb,e1,e2,e3,d0,d1]
 cases d2:decide ((M.code.length:Int) < toP M f)
 rotate_left
 ·refine ⟨m,?_,(Gr.refl m).le (by omega)⟩
  simp only [KK,Nat.reduceEqDiff,Nat.reduceAdd,Nat.reduceLeDiff,Nat.reduceLT,a111_R1,a111_R2,hb,hP,e1,e2,e3,d0,d1,d2]
 cases d3:decide (x.params < 0)
 rotate_left
 ·refine ⟨m,?_,(Gr.refl m).le (by omega)⟩
  simp only [KK,Nat.reduceEqDiff,Nat.reduceAdd,Nat.reduceLeDiff,Nat.reduceLT,a111_R1,a111_R2,hb,hP,e1,e2,e3,d0,d1,d2,d3]
 cases d4:decide (x.locals < x.params)
 rotate_left
 ·refine ⟨m,?_,(Gr.refl m).le (by omega)⟩
  simp only [KK,Nat.reduceEqDiff,Nat.reduceAdd,Nat.reduceLeDiff,Nat.reduceLT,a111_R1,a111_R2,hb,hP,e1,e2,e3,d0,d1,d2,d3,d4]
 cases d5:decide (64 < x.locals)
 rotate_left
 ·refine ⟨m,?_,(Gr.refl m).le (by omega)⟩
  simp only [KK,Nat.reduceEqDiff,Nat.reduceAdd,Nat.reduceLeDiff,Nat.reduceLT,a111_R1,a111_R2,hb,hP,e1,e2,e3,d0,d1,d2,d3,d4,d5]
 have q0:=of_decide_eq_false d0
 have q1:=of_decide_eq_false d1
 have q2:=of_decide_eq_false d2
 unfold bodyP segP lastP
 obtain ⟨fr,hfr⟩:∃ k:Nat,fromP M f=(k:Int):=⟨(fromP M f).toNat,by omega⟩
 obtain ⟨te,hte⟩:∃ k:Nat,toP M f=(k:Int):=⟨(toP M f).toNat,by omega⟩
 have hlo:=rbody_loop m I M hm f fr te hf hlf hl (by omega) (by omega) hmn n
 rw [hfr,hte] at hlo hb d1 ⊢
 rw [hfr] at d0
 rw [hte] at d2
 rw [Int.toNat_natCast,Int.toNat_natCast]
 have hsb:binEv .sub (.int .i64 (te:Int)) (.int .i64 1)=some (.int .i64 ((te - 1:Nat):Int)):=by
  have e:((te - 1:Nat):Int)=(te:Int) - 1:=by omega
  rw [e]
  simp only [binEv,if_true,intBin,IntKind.wrap,IntKind.bits]
  simp [IntKind.signed]
  omega
 obtain ⟨y,hy⟩:∃ y,M.code[te - 1]?=some y:=⟨_,List.getElem?_eq_getElem (by omega)⟩
 rw [hy]
 dsimp only
 simp only [KK,Nat.reduceEqDiff,Nat.reduceAdd,Nat.reduceLeDiff,Nat.reduceLT,a111_R1,a111_R2,a111_R4,a111_R5,hb,hP,e1,e2,e3,d0,d1,d2,d3,d4,d5]
 generalize hq:codeEv (run A n) (ev A n).2 a111_L1 _=q
 obtain ⟨T',L',m',⟨h1,rfl,h2,h3,hg⟩ | ⟨h1,rfl,h2,hg⟩⟩:=hlo _ _ (by omega) (by simp only [keepT,List.map,look_set,look_cons,in_int,in_loc,Nat.reduceEqDiff,if_true,if_false,List.contains_cons,List.contains_nil,beq_self_eq_true,Bool.or_false]) (by simp only [lookL_cons,if_true]) hq
 rotate_left
 ·exact ⟨m',by simp only [loc_bool,if_false,Bool.false_and,Bool.false_eq_true,h1,h2],hg⟩
 obtain ⟨b2,o2,cs2,ow2,g1,g2,_,g3⟩:=(hm.ext hg.1).c.ii hy
 refine ⟨m',?_,hg⟩
 cases k1:decide (y.op=1)
 ·cases k2:decide (y.op=15)
  ·cases k3:decide (y.op=18)
   ·simp only [KK,Nat.reduceEqDiff,Nat.reduceAdd,Nat.reduceLeDiff,Nat.reduceLT,h1,h2,h3,hsb,g1,g2,g3,k1,k2,k3]
   ·simp only [KK,Nat.reduceEqDiff,Nat.reduceAdd,Nat.reduceLeDiff,Nat.reduceLT,h1,h2,h3,hsb,g1,g2,g3,k1,k2,k3]
  ·simp only [KK,Nat.reduceEqDiff,Nat.reduceAdd,Nat.reduceLeDiff,Nat.reduceLT,h1,h2,h3,hsb,g1,g2,g3,k1,k2]
 ·simp only [KK,Nat.reduceEqDiff,Nat.reduceAdd,Nat.reduceLeDiff,Nat.reduceLT,h1,h2,h3,hsb,g1,g2,g3,k1]
theorem hasI_zero (k:Int):hasI 0#32 k=false:=by unfold hasI; simp
theorem checkL_of:∀ (l:List V) (s:BitVec 32),(∀ v∈l,okV v=true∧hasI s v.line=false)→l.Pairwise (fun a b=>a.line≠b.line)→checkL s l=true
 | [],_,_,_=>rfl
 | v::r,s,h,hp=>by
  obtain ⟨h1,h2⟩:=h v (List.mem_cons_self ..)
  rw [List.pairwise_cons] at hp
  have ho:=okV_law h1
  unfold checkL
  rw [h1,h2,checkL_of r _ (fun x hx=>⟨(h x (List.mem_cons_of_mem _ hx)).1,?_⟩) hp.2]
  ·rfl
  ·rw [hasI_or _ _ (by omega),(h x (List.mem_cons_of_mem _ hx)).2,Bool.false_or,decide_eq_false_iff_not]
   have:=hp.1 x hx
   omega
def lineD (x:V) (_:Nat) (y:V):Bool:=!decide (y.line=x.line)
def vecD (l:List V) (i:Nat) (x:V):Bool:=okV x&&allI (lineD x) (l.take i) 0
def chk2 (l:List V):Bool:=allI (vecD l) l 0
theorem chk2_eq (l:List V):chk2 l=checkL 0#32 l:=by
 rw [Bool.eq_iff_iff]
 unfold chk2
 rw [allI_iff]
 constructor
 ·intro h
  refine checkL_of l _ (fun v hv=>⟨?_,hasI_zero _⟩) ?_
  ·obtain ⟨k,hk⟩:=List.mem_iff_getElem?.1 hv
   have:=h k v hk
   unfold vecD at this
   rw [Bool.and_eq_true] at this
   exact this.1
  ·rw [List.pairwise_iff_getElem]
   intro i j hi hj hij he
   have:=h j _ (List.getElem?_eq_getElem hj)
   unfold vecD at this
   rw [Bool.and_eq_true,allI_iff] at this
   have:=this.2 i l[i] (by rw [List.getElem?_take,if_pos (by omega)]; exact List.getElem?_eq_getElem hi)
   unfold lineD at this
   rw [he] at this
   simp at this
 ·intro h j x hx
  obtain ⟨a,b⟩:=checkL_law l _ h
  unfold vecD
  rw [Bool.and_eq_true,allI_iff]
  refine ⟨(a x (List.mem_of_getElem? hx)).1,fun k y hy=>?_⟩
  rw [List.getElem?_take] at hy
  split at hy
  ·rename_i hk
   have:=pair_ne b hy hx (by omega)
   unfold lineD
   simpa using this
  ·cases hy
theorem rline_in (m:Mem) (v:AV) (l:List V) (hv:RS V.c 3 m v l) (hl:l.length≤1000) (i:Nat) (x:V) (hx:l[i]?=some x) (N:Nat) (T:List (Nat×AV)) (L:List (Nat×List AV)) (hN:i+1≤N) (hk:keepT [0,3,4] [] T=[(0,v),(3,.int .i64 (i:Int)),(4,.int .i64 0)]) {q:Option (Ex×St)} (hq:codeEv (run A N) (ev A N).2 a93_L1 ⟨68,T,L,m⟩=q):
  ∃ T' L',(allI (lineD x) (l.take i) 0=true∧q=some (.exit 2,⟨68,T',L',m⟩)∧keepT [0,3] [] T'=[(0,v),(3,.int .i64 (i:Int))])∨(allI (lineD x) (l.take i) 0=false∧q=some (.ret,⟨68,T',L',m⟩)∧look T' 2=.int .i64 2):=by
 obtain ⟨p1,p2,p3,p4⟩:=hv.plain
 have hlt:=(List.getElem?_eq_some_iff.1 hx).1
 have hll:(l.take i).length=i:=by rw [List.length_take]; omega
 obtain ⟨b,o,cs,ow,e1,e2,e3⟩:=hv.vv hx
 have e3':=cells_sub e3 (k:=0) rfl
 have h:=scan0 (A:=A) a93_L1 a93_B1 a93_L1_step (fun j (_:Unit) s=>∃ T L,s=⟨68,T,L,m⟩∧keepT [0,3,4] [] T=[(0,v),(3,.int .i64 (i:Int)),(4,.int .i64 (j:Int))]) (fun _ s=>∃ T L,s=⟨68,T,L,m⟩∧keepT [0,3] [] T=[(0,v),(3,.int .i64 (i:Int))]) (fun (_:Unit) s=>∃ T L,s=⟨68,T,L,m⟩∧look T 2=.int .i64 2) 2 1 (allS (lineD x)) (l.take i)
  (fun N b s hN ⟨T,L,hs,hk⟩=>by
   subst hs
   rw [hll] at hk
   have h':¬(i:Int) < (i:Int):=by omega
   unfold a93_B1
   exact ⟨_,by simp only [KK,Nat.reduceEqDiff,Nat.reduceLT,hk,h']; rfl,_,_,rfl,by simp only [keepT,List.map,look_set,look_cons,in_int,Nat.reduceEqDiff,if_true,if_false,p1]⟩)
  (fun N j y b s hN hy ⟨T,L,hs,hk⟩=>by
   subst hs
   rw [List.getElem?_take] at hy
   split at hy
   rotate_left
   ·cases hy
   rename_i hji
   have h':(j:Int) < (i:Int):=by omega
   obtain ⟨b2,o2,cs2,ow2,g1,g2,g3⟩:=hv.vv hy
   have g3':=cells_sub g3 (k:=0) rfl
   have a1:=add_i j (by omega)
   unfold allS lineD
   cases d:decide (y.line=x.line)
   ·rw [if_pos (by rfl)]
    dsimp only
    unfold a93_B1
    exact ⟨_,by simp only [KK,Nat.reduceEqDiff,Nat.reduceLT,AOp.kd,kd_rm,logOk_nil',hk,h',p1,e1,e2,e3',g1,g2,g3',a1,d]; rfl,_,_,rfl,by simp only [keepT,List.map,look_set,look_cons,in_int,Nat.reduceEqDiff,if_true,if_false,p1]⟩
   ·rw [if_neg (by simp)]
    dsimp only
    unfold a93_B1
    exact ⟨_,by simp only [KK,Nat.reduceEqDiff,Nat.reduceLT,AOp.kd,kd_rm,logOk_nil',hk,h',p1,e1,e2,e3',g1,g2,g3',d]; rfl,_,_,rfl,by simp only [look_set,if_true]⟩)
  N () ⟨68,T,L,m⟩ (by omega) ⟨T,L,rfl,hk⟩ hq
 rw [fold_all] at h
 cases hall:allI (lineD x) (l.take i) 0
 ·rw [hall] at h
  obtain ⟨s',e,T',L',rfl,h2⟩:=h
  exact ⟨T',L',.inr ⟨rfl,e,h2⟩⟩
 ·rw [hall] at h
  obtain ⟨s',e,T',L',rfl,h2⟩:=h
  exact ⟨T',L',.inl ⟨rfl,e,h2⟩⟩
theorem rvec_body (m:Mem) (v:AV) (l:List V) (hv:RS V.c 3 m v l) (hl:l.length≤1000) (i:Nat) (x:V) (hx:l[i]?=some x) (N:Nat) (T:List (Nat×AV)) (L:List (Nat×List AV)) (hN:l.length+1≤N) (hk:keepT [0,3] [] T=[(0,v),(3,.int .i64 (i:Int))]):
  (vecD l i x=true∧∃ T' L',codeEv (run A N) (ev A N).2 a93_B2 ⟨68,T,L,m⟩=some (.norm,⟨68,T',L',m⟩)∧keepT [0,3] [] T'=[(0,v),(3,.int .i64 ((i+1:Nat):Int))])∨(vecD l i x=false∧∃ T' L',codeEv (run A N) (ev A N).2 a93_B2 ⟨68,T,L,m⟩=some (.ret,⟨68,T',L',m⟩)∧look T' 2=.int .i64 2):=by
 obtain ⟨p1,p2,p3,p4⟩:=hv.plain
 have hlt:=(List.getElem?_eq_some_iff.1 hx).1
 have h':(i:Int) < (l.length:Int):=by omega
 have lv:=hv.lenR
 have a1:=add_i i (by omega)
 obtain ⟨b,o,cs,ow,e1,e2,e3⟩:=hv.vv hx
 have f0:=cells_sub e3 (k:=0) rfl
 have f1:=cells_sub e3 (k:=1) rfl
 have f2:=cells_sub e3 (k:=2) rfl
 unfold vecD okV
 cases d0:decide (x.line < 0)
 rotate_left
 ·unfold a93_B2
  exact .inr ⟨by simp,_,_,by simp only [KK,Nat.reduceEqDiff,Nat.reduceLT,hk,h',p1,lv,e1,e2,f0,d0]; rfl,by simp only [look_set,if_true]⟩
 cases d1:decide (31 < x.line)
 rotate_left
 ·unfold a93_B2
  exact .inr ⟨by simp,_,_,by simp only [KK,Nat.reduceEqDiff,Nat.reduceLT,hk,h',p1,lv,e1,e2,f0,d0,d1]; rfl,by simp only [look_set,if_true]⟩
 cases d2:decide (x.prio < 1)
 rotate_left
 ·unfold a93_B2
  exact .inr ⟨by simp,_,_,by simp only [KK,Nat.reduceEqDiff,Nat.reduceLT,hk,h',p1,lv,e1,e2,f0,f1,d0,d1,d2]; rfl,by simp only [look_set,if_true]⟩
 cases d3:decide (15 < x.prio)
 rotate_left
 ·unfold a93_B2
  exact .inr ⟨by simp,_,_,by simp only [KK,Nat.reduceEqDiff,Nat.reduceLT,hk,h',p1,lv,e1,e2,f0,f1,d0,d1,d2,d3]; rfl,by simp only [look_set,if_true]⟩
 cases d4:decide (x.fn < 0)
 rotate_left
 ·unfold a93_B2
  exact .inr ⟨by simp,_,_,by simp only [KK,Nat.reduceEqDiff,Nat.reduceLT,hk,h',p1,lv,e1,e2,f0,f1,f2,d0,d1,d2,d3,d4]; rfl,by simp only [look_set,if_true]⟩
 simp only [Bool.not_false,Bool.true_and]
 unfold a93_B2
 simp only [KK,Nat.reduceEqDiff,Nat.reduceLT,hk,h',p1,lv,e1,e2,f0,f1,f2,d0,d1,d2,d3,d4]
 generalize hq:codeEv (run A N) (ev A N).2 a93_L1 _=q
 obtain ⟨T',L',⟨h1,rfl,h2⟩ | ⟨h1,rfl,h2⟩⟩:=rline_in m v l hv hl i x hx N _ _ (by omega) (by simp only [keepT,List.map,look_set,look_cons,in_int,Nat.reduceEqDiff,if_true,if_false,p1]) hq
 ·exact .inl ⟨h1,_,_,by simp only [look_set,look_nil,look_cons,Option.map_some,Nat.reduceEqDiff,Nat.reduceLT,if_true,if_false,h2,a1]; rfl,by simp only [keepT,List.map,look_set,look_cons,in_int,Nat.reduceEqDiff,if_true,if_false,p1]⟩
 ·exact .inr ⟨h1,_,_,rfl,h2⟩
theorem r2check_run (N:Nat) (m:Mem) (v:AV) (l:List V) (hv:RS V.c 3 m v l) (hl:l.length≤1000) (hN:2*l.length+3≤N):run A N 93 [v] m=some (.int .i64 (checkV l),m):=by
 obtain ⟨n,rfl⟩:∃ n,N=n+1:=⟨N - 1,by omega⟩
 obtain ⟨p1,p2,p3,p4⟩:=hv.plain
 have lv:=hv.lenR
 rw [run_93]
 unfold fnEv a93 checkV
 rw [←chk2_eq]
 by_cases h32:32 < l.length
 ·have h32':32 < (l.length:Int):=by omega
  rw [if_pos h32]
  simp only [KK,Nat.reduceEqDiff,Nat.reduceAdd,Nat.reduceLT,p1,lv,h32']
 rw [if_neg h32]
 have h32':¬32 < (l.length:Int):=by omega
 simp only [KK,Nat.reduceEqDiff,Nat.reduceAdd,Nat.reduceLT,p1,lv,h32']
 generalize hq:codeEv (run A n) (ev A n).2 a93_L2 _=q
 have h:=scan0 (A:=A) a93_L2 a93_B2 a93_L2_step (fun i (_:Unit) s=>∃ T L,s=⟨68,T,L,m⟩∧keepT [0,3] [] T=[(0,v),(3,.int .i64 (i:Int))]) (fun _ s=>∃ T L,s=⟨68,T,L,m⟩) (fun (_:Unit) s=>∃ T L,s=⟨68,T,L,m⟩∧look T 2=.int .i64 2) 0 (l.length+1) (allS (vecD l)) l
  (fun N b s hN ⟨T,L,hs,hk⟩=>by
   subst hs
   have h':¬(l.length:Int) < (l.length:Int):=by omega
   unfold a93_B2
   exact ⟨_,by simp only [KK,Nat.reduceEqDiff,Nat.reduceLT,hk,h',lv]; rfl,_,_,rfl⟩)
  (fun N i x b s hN hx ⟨T,L,hs,hk⟩=>by
   subst hs
   unfold allS
   rcases rvec_body m v l hv hl i x hx N T L hN hk with ⟨h1,T',L',e1,e2⟩ | ⟨h1,T',L',e1,e2⟩
   ·rw [if_pos h1]
    exact ⟨_,e1,_,_,rfl,e2⟩
   ·rw [if_neg (by rw [h1]; simp)]
    exact ⟨_,e1,_,_,rfl,e2⟩)
  n () _ (by omega) ⟨_,_,rfl,by simp only [keepT,List.map,look_set,look_cons,in_int,Nat.reduceEqDiff,if_true,if_false,p1]; rfl⟩ hq
 rw [fold_all] at h
 unfold chk2
 cases hall:allI (vecD l) l 0
 ·rw [hall] at h
  obtain ⟨s',rfl,T',L',rfl,h2⟩:=h
  simp only [loc_int,if_false,Bool.false_eq_true,h2]
 ·rw [hall] at h
  obtain ⟨s',rfl,T',L',rfl⟩:=h
  simp only [look_set,loc_int,Nat.reduceLT,if_true,if_false,Bool.false_eq_true]
end AG
