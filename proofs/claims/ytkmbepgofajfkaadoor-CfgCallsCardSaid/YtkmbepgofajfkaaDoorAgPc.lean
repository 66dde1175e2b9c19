/- What the functions that read images and paths compute, and the laws of that. -/
import Derived.Test.YtkmbepgofajfkaaDoorAgPb
import Derived.Test.YtkmbepgofajfkaaDoorAgF2
namespace AG
open Go Go.Proofs.YtkmbepgofajfkaaDoor
set_option maxRecDepth 100000
set_option maxHeartbeats 4000000
theorem bounds_run (N:Nat) (hN:1≤N) (m:Mem) (I:ImV) (M:Img) (hm:IM m I M) (f:Nat) (hf:f < M.funcs.length) (hl:f≤100000):run A N 109 [.agg (ic I M),.int .i64 (f:Int)] m=some (.tup [.int .i64 (fromP M f),.int .i64 (toP M f)],m):=by
 obtain ⟨n,rfl⟩:∃ n,N=n+1:=⟨N - 1,by omega⟩
 have hP:=hm.pls
 have a1:=add_i f (by omega)
 obtain ⟨x,hx⟩:∃ x,M.funcs[f]?=some x:=⟨_,List.getElem?_eq_getElem hf⟩
 obtain ⟨b,o,cs,ow,e1,e2,_,e3,_,_⟩:=hm.f.ff hx
 have hfr:fromP M f=x.entry:=by unfold fromP; rw [hx]; rfl
 rw [hfr]
 by_cases h1:f+1 < M.funcs.length
 ·obtain ⟨y,hy⟩:∃ y,M.funcs[f+1]?=some y:=⟨_,List.getElem?_eq_getElem h1⟩
  obtain ⟨b2,o2,cs2,ow2,g1,g2,_,g3,_,_⟩:=hm.f.ff hy
  have hto:toP M f=y.entry:=by unfold toP fromP; rw [if_pos h1,hy]; rfl
  rw [hto]
  have h1':((f+1:Nat):Int) < (M.funcs.length:Int):=by omega
  rw [run_109]
  unfold fnEv a109
  simp only [KK,Nat.reduceEqDiff,Nat.reduceAdd,Nat.reduceLeDiff,Nat.reduceLT,AOp.kd,kd_rm,logOk_nil',hP,a1,e1,e2,e3,g1,g2,g3,h1']
 ·have hto:toP M f=M.code.length:=by unfold toP; rw [if_neg h1]
  rw [hto]
  have h1':¬((f+1:Nat):Int) < (M.funcs.length:Int):=by omega
  rw [run_109]
  unfold fnEv a109
  simp only [KK,Nat.reduceEqDiff,Nat.reduceAdd,Nat.reduceLeDiff,Nat.reduceLT,AOp.kd,kd_rm,logOk_nil',hP,a1,e1,e2,e3,h1']
def light1 (M:Img) (k:Int):Bool:=!decide (k < (M.code.length:Int))&&(!decide (80 < (M.funcs.length:Int))&&(!decide (40 < (M.vecs.length:Int))&&(!decide (k < (M.init.length:Int))&&(!decide (40 < (M.ports.length:Int))&&!decide (80 < (M.atoms.length:Int))))))
def lightP (M:Img) (k:Int):Bool:=light1 M k&&allI (fun _ (l:List Int)=>!decide (k < (l.length:Int))) M.atoms 0
theorem light_loop (m:Mem) (I:ImV) (M:Img) (hm:IM m I M) (hl:M.atoms.length≤100000) (k:Int) (N:Nat) (T:List (Nat×AV)) (L:List (Nat×List AV)) (hN:M.atoms.length+1≤N) (hk:keepT [1,2,5] [2] T=[(1,.int .i64 k),(2,.loc 2 0),(5,.int .i64 0)]) (hL:lookL L 2=some (ic I M)) {q:Option (Ex×St)} (hq:codeEv (run A N) (ev A N).2 a13_L1 ⟨57,T,L,m⟩=q):
  ∃ T' L',(allI (fun _ (l:List Int)=>!decide (k < (l.length:Int))) M.atoms 0=true∧q=some (.exit 0,⟨57,T',L',m⟩))∨(allI (fun _ (l:List Int)=>!decide (k < (l.length:Int))) M.atoms 0=false∧q=some (.ret,⟨57,T',L',m⟩)∧look T' 4=.bool false):=by
 have hP:=hm.pls
 have h:=scan0 (A:=A) a13_L1 a13_B1 a13_L1_step (fun i (_:Unit) s=>∃ T L,s=⟨57,T,L,m⟩∧keepT [1,2,5] [2] T=[(1,.int .i64 k),(2,.loc 2 0),(5,.int .i64 (i:Int))]∧lookL L 2=some (ic I M)) (fun _ s=>∃ T L,s=⟨57,T,L,m⟩) (fun (_:Unit) s=>∃ T L,s=⟨57,T,L,m⟩∧look T 4=.bool false) 0 1 (allS fun _ (l:List Int)=>!decide (k < (l.length:Int))) M.atoms
  (fun N b s hN ⟨T,L,hs,hk,hL⟩=>by
   subst hs
   have h':¬(M.atoms.length:Int) < (M.atoms.length:Int):=by omega
   unfold a13_B1
   exact ⟨_,by simp only [KK,Nat.reduceEqDiff,Nat.reduceAdd,Nat.reduceLeDiff,Nat.reduceLT,hk,hL,h',hP]; rfl,_,_,rfl⟩)
  (fun N i x b s hN hx ⟨T,L,hs,hk,hL⟩=>by
   subst hs
   have hlt:=(List.getElem?_eq_some_iff.1 hx).1
   have h':(i:Int) < (M.atoms.length:Int):=by omega
   obtain ⟨b,o,cs,ow,w,e1,e2,e3,hw⟩:=hm.a.at hx
   obtain ⟨w1,w2,w3,w4⟩:=hw.plain
   have lw:=hw.lenR
   have a1:=add_i i (by omega)
   unfold allS
   cases hd:decide (k < (x.length:Int))
   ·rw [if_pos (by dsimp only; rw [hd]; rfl)]
    dsimp only
    unfold a13_B1
    exact ⟨_,by simp only [KK,Nat.reduceEqDiff,Nat.reduceAdd,Nat.reduceLeDiff,Nat.reduceLT,a13_R2,hk,hL,hP,h',e1,e2,e3,lw,hd,a1]; rfl,_,_,rfl,by simp only [keepT,List.map,look_set,look_cons,in_int,in_loc,Nat.reduceEqDiff,if_true,if_false,List.contains_cons,List.contains_nil,beq_self_eq_true,Bool.or_false],by simp only [lookL_cons,if_true]⟩
   ·rw [if_neg (by dsimp only; rw [hd]; simp)]
    dsimp only
    unfold a13_B1
    exact ⟨_,by simp only [KK,Nat.reduceEqDiff,Nat.reduceAdd,Nat.reduceLeDiff,Nat.reduceLT,a13_R2,hk,hL,hP,h',e1,e2,e3,lw,hd]; rfl,_,_,rfl,by simp only [look_set,if_true]⟩)
  N () ⟨57,T,L,m⟩ (by omega) ⟨T,L,rfl,hk,hL⟩ hq
 rw [fold_all] at h
 cases hall:allI (fun _ (l:List Int)=>!decide (k < (l.length:Int))) M.atoms 0
 ·rw [hall] at h
  obtain ⟨s',e,T',L',rfl,h2⟩:=h
  exact ⟨T',L',.inr ⟨rfl,e,h2⟩⟩
 ·rw [hall] at h
  obtain ⟨s',e,T',L',rfl⟩:=h
  exact ⟨T',L',.inl ⟨rfl,e⟩⟩
theorem light_run (N:Nat) (m:Mem) (I:ImV) (M:Img) (hm:IM m I M) (k:Int) (hN:200≤N):run A N 13 [.agg (ic I M),.int .i64 k] m=some (.bool (lightP M k),m):=by
 obtain ⟨n,rfl⟩:∃ n,N=n+1:=⟨N - 1,by omega⟩
 have hP:=hm.pls
 cases d0:decide (k < (M.code.length:Int))
 rotate_left
 ·have hz:lightP M k=false:=by simp only [lightP,light1,d0,Bool.not_true,Bool.false_and]
  rw [hz,run_13]
  unfold fnEv a13
  simp only [KK,Nat.reduceEqDiff,Nat.reduceAdd,Nat.reduceLeDiff,Nat.reduceLT,a13_R1,hP,d0]
 cases d1:decide (80 < (M.funcs.length:Int))
 rotate_left
 ·have hz:lightP M k=false:=by simp only [lightP,light1,d0,d1,Bool.not_false,Bool.not_true,Bool.false_and,Bool.and_false]
  rw [hz,run_13]
  unfold fnEv a13
  simp only [KK,Nat.reduceEqDiff,Nat.reduceAdd,Nat.reduceLeDiff,Nat.reduceLT,a13_R1,hP,d0,d1]
 cases d2:decide (40 < (M.vecs.length:Int))
 rotate_left
 ·have hz:lightP M k=false:=by simp only [lightP,light1,d0,d1,d2,Bool.not_false,Bool.not_true,Bool.false_and,Bool.and_false]
  rw [hz,run_13]
  unfold fnEv a13
  simp only [KK,Nat.reduceEqDiff,Nat.reduceAdd,Nat.reduceLeDiff,Nat.reduceLT,a13_R1,hP,d0,d1,d2]
 cases d3:decide (k < (M.init.length:Int))
 rotate_left
 ·have hz:lightP M k=false:=by simp only [lightP,light1,d0,d1,d2,d3,Bool.not_false,Bool.not_true,Bool.false_and,Bool.and_false]
  rw [hz,run_13]
  unfold fnEv a13
  simp only [KK,Nat.reduceEqDiff,Nat.reduceAdd,Nat.reduceLeDiff,Nat.reduceLT,a13_R1,hP,d0,d1,d2,d3]
 cases d4:decide (40 < (M.ports.length:Int))
 rotate_left
 ·have hz:lightP M k=false:=by simp only [lightP,light1,d0,d1,d2,d3,d4,Bool.not_false,Bool.not_true,Bool.false_and,Bool.and_false]
  rw [hz,run_13]
  unfold fnEv a13
  simp only [KK,Nat.reduceEqDiff,Nat.reduceAdd,Nat.reduceLeDiff,Nat.reduceLT,a13_R1,hP,d0,d1,d2,d3,d4]
 cases d5:decide (80 < (M.atoms.length:Int))
 rotate_left
 ·have hz:lightP M k=false:=by simp only [lightP,light1,d0,d1,d2,d3,d4,d5,Bool.not_false,Bool.not_true,Bool.false_and,Bool.and_false]
  rw [hz,run_13]
  unfold fnEv a13
  simp only [KK,Nat.reduceEqDiff,Nat.reduceAdd,Nat.reduceLeDiff,Nat.reduceLT,a13_R1,hP,d0,d1,d2,d3,d4,d5]
 have hz:lightP M k=allI (fun _ (l:List Int)=>!decide (k < (l.length:Int))) M.atoms 0:=by simp only [lightP,light1,d0,d1,d2,d3,d4,d5,Bool.not_false,Bool.and_true,Bool.true_and]
 rw [hz,run_13]
 unfold fnEv a13
 simp only [KK,Nat.reduceEqDiff,Nat.reduceAdd,Nat.reduceLeDiff,Nat.reduceLT,a13_R1,hP,d0,d1,d2,d3,d4,d5]
 generalize hq:codeEv (run A n) (ev A n).2 a13_L1 _=q
 obtain ⟨T',L',⟨h1,rfl⟩ | ⟨h1,rfl,h2⟩⟩:=light_loop m I M hm (by have:=of_decide_eq_false d5; omega) k n _ _ (by have:=of_decide_eq_false d5; omega) (by simp only [keepT,List.map,look_set,look_cons,in_int,in_loc,Nat.reduceEqDiff,if_true,if_false,List.contains_cons,List.contains_nil,beq_self_eq_true,Bool.or_false]) (by simp only [lookL_cons,if_true]) hq
 ·rw [h1]
  simp only [look_set,loc_bool,Nat.reduceLT,if_true,if_false,Bool.false_eq_true]
 ·rw [h1]
  simp only [loc_bool,if_false,Bool.false_eq_true,h2]
theorem light_law {M:Img} {k:Nat} (h:lightP M (k:Int)=true):M.code.length≤k∧M.funcs.length≤80∧M.vecs.length≤40∧M.init.length≤k∧M.ports.length≤40∧M.atoms.length≤80∧∀ l∈M.atoms,l.length≤k:=by
 unfold lightP light1 at h
 simp only [Bool.and_eq_true,Bool.not_eq_true',decide_eq_false_iff_not] at h
 obtain ⟨⟨h1,h2,h3,h4,h5,h6⟩,h7⟩:=h
 refine ⟨by omega,by omega,by omega,by omega,by omega,by omega,fun l hl=>?_⟩
 obtain ⟨i,hi⟩:=List.mem_iff_getElem?.1 hl
 have:=(allI_iff _ _ _).1 h7 i l hi
 simp only [Bool.not_eq_true',decide_eq_false_iff_not] at this
 omega
theorem ints_loop (m:Mem) (u v:AV) (x y:List Int) (hu:RE m u x) (hv:RE m v y) (hxy:x.length=y.length) (hl:x.length≤1000000) (N:Nat) (T:List (Nat×AV)) (L:List (Nat×List AV)) (hN:x.length+1≤N) (hk:keepT [0,1,5] [] T=[(0,u),(1,v),(5,.int .i64 0)]) {q:Option (Ex×St)} (hq:codeEv (run A N) (ev A N).2 a42_L1 ⟨26,T,L,m⟩=q):
  ∃ T' L',(x=y∧q=some (.exit 0,⟨26,T',L',m⟩))∨(x≠y∧q=some (.ret,⟨26,T',L',m⟩)∧look T' 4=.bool false):=by
 obtain ⟨u1,u2,u3,u4⟩:=hu.plain
 obtain ⟨v1,v2,v3,v4⟩:=hv.plain
 have lu:=hu.lenR
 have lv:=hv.lenR
 have h:=scan0 (A:=A) a42_L1 a42_B1 a42_L1_step (fun i (_:Unit) s=>∃ T L,s=⟨26,T,L,m⟩∧keepT [0,1,5] [] T=[(0,u),(1,v),(5,.int .i64 (i:Int))]) (fun _ s=>∃ T L,s=⟨26,T,L,m⟩) (fun (_:Unit) s=>∃ T L,s=⟨26,T,L,m⟩∧look T 4=.bool false) 0 1 (allS fun i (z:Int)=>decide (y[i]?=some z)) x
  (fun N b s hN ⟨T,L,hs,hk⟩=>by
   subst hs
   have h':¬(x.length:Int) < (x.length:Int):=by omega
   unfold a42_B1
   exact ⟨_,by simp only [KK,Nat.reduceEqDiff,Nat.reduceLT,hk,h',lu]; rfl,_,_,rfl⟩)
  (fun N i z b s hN hx ⟨T,L,hs,hk⟩=>by
   subst hs
   have hlt:=(List.getElem?_eq_some_iff.1 hx).1
   have h':(i:Int) < (x.length:Int):=by omega
   obtain ⟨b,o,cs,ow,e1,e2,e3⟩:=hu.i1 hx
   obtain ⟨z',hz'⟩:∃ z',y[i]?=some z':=⟨_,List.getElem?_eq_getElem (by omega)⟩
   obtain ⟨b2,o2,cs2,ow2,g1,g2,g3⟩:=hv.i1 hz'
   have a1:=add_i i (by omega)
   unfold allS
   cases hd:decide (z=z')
   ·have hd2:decide (y[i]?=some z)=false:=by
     rw [decide_eq_false_iff_not] at hd ⊢
     rw [hz']; intro e; cases e; exact hd rfl
    rw [if_neg (by dsimp only; rw [hd2]; simp)]
    dsimp only
    unfold a42_B1
    exact ⟨_,by simp only [KK,Nat.reduceEqDiff,Nat.reduceLT,AOp.kd,kd_rm,logOk_nil',hk,h',e1,e2,e3,g1,g2,g3,u1,v1,lu,hd]; rfl,_,_,rfl,by simp only [look_set,if_true]⟩
   ·have hd2:decide (y[i]?=some z)=true:=by
     rw [decide_eq_true_iff] at hd ⊢
     rw [hz',hd]
    rw [if_pos (by exact hd2)]
    dsimp only
    unfold a42_B1
    exact ⟨_,by simp only [KK,Nat.reduceEqDiff,Nat.reduceLT,AOp.kd,kd_rm,logOk_nil',hk,h',e1,e2,e3,g1,g2,g3,u1,v1,lu,hd,a1]; rfl,_,_,rfl,by simp only [keepT,List.map,look_set,look_cons,in_int,Nat.reduceEqDiff,if_true,if_false,u1,v1]⟩)
  N () ⟨26,T,L,m⟩ (by omega) ⟨T,L,rfl,hk⟩ hq
 have hiff:allI (fun i (z:Int)=>decide (y[i]?=some z)) x 0=true↔x=y:=by
  rw [allI_iff]
  constructor
  ·intro h
   apply List.ext_getElem?
   intro i
   cases hx:x[i]? with
   | none=>rw [List.getElem?_eq_none (by have:=List.getElem?_eq_none_iff.1 hx; omega)]
   | some z=>
    have:=of_decide_eq_true (h i z hx)
    rw [Nat.zero_add] at this
    exact this.symm
  ·rintro rfl j z hz
   rw [Nat.zero_add,hz]
   exact decide_eq_true rfl
 rw [fold_all] at h
 cases hall:allI (fun i (z:Int)=>decide (y[i]?=some z)) x 0
 ·rw [hall] at h
  obtain ⟨s',e,T',L',rfl,h2⟩:=h
  exact ⟨T',L',.inr ⟨(fun e=>by rw [hiff.2 e] at hall; cases hall),e,h2⟩⟩
 ·rw [hall] at h
  obtain ⟨s',e,T',L',rfl⟩:=h
  exact ⟨T',L',.inl ⟨hiff.1 hall,e⟩⟩
theorem ints_run (N:Nat) (m:Mem) (u v:AV) (x y:List Int) (hu:RE m u x) (hv:RE m v y) (hl:x.length≤1000000) (hN:x.length+2≤N):run A N 42 [u,v] m=some (.bool (decide (x=y)),m):=by
 obtain ⟨n,rfl⟩:∃ n,N=n+1:=⟨N - 1,by omega⟩
 obtain ⟨u1,u2,u3,u4⟩:=hu.plain
 obtain ⟨v1,v2,v3,v4⟩:=hv.plain
 have lu:=hu.lenR
 have lv:=hv.lenR
 rw [run_42]
 unfold fnEv a42
 by_cases hxy:x.length=y.length
 ·have hd:decide ((x.length:Int)=(y.length:Int))=true:=decide_eq_true (by omega)
  simp only [KK,Nat.reduceEqDiff,Nat.reduceAdd,Nat.reduceLT,u1,v1,lu,lv,hd]
  generalize hq:codeEv (run A n) (ev A n).2 a42_L1 _=q
  obtain ⟨T',L',⟨h1,rfl⟩ | ⟨h1,rfl,h2⟩⟩:=ints_loop m u v x y hu hv hxy hl n _ _ (by omega) (by simp only [keepT,List.map,look_set,look_cons,in_int,Nat.reduceEqDiff,if_true,if_false,u1,v1]) hq
  ·rw [decide_eq_true h1]
   simp only [look_set,loc_bool,Nat.reduceLT,if_true,if_false,Bool.false_eq_true]
  ·rw [decide_eq_false h1]
   simp only [loc_bool,if_false,Bool.false_eq_true,h2]
 ·have hd:decide ((x.length:Int)=(y.length:Int))=false:=decide_eq_false (by omega)
  have hne:decide (x=y)=false:=decide_eq_false (fun e=>hxy (by rw [e]))
  rw [hne]
  simp only [KK,Nat.reduceEqDiff,Nat.reduceAdd,Nat.reduceLT,u1,v1,lu,lv,hd]
def sizes1 (M:Img):Bool:=decide (M.funcs.length≤64∧M.code.length≤16384∧M.init.length≤4096∧M.ports.length≤32∧M.atoms.length≤64∧M.vecs.length≤32)
def sizesP (M:Img):Bool:=sizes1 M&&allI (fun _ (l:List Int)=>decide (l.length≤4096)) M.atoms 0
theorem sizes_loop (m:Mem) (I:ImV) (M:Img) (hm:IM m I M) (hl:M.atoms.length≤1000) (N:Nat) (T:List (Nat×AV)) (L:List (Nat×List AV)) (hN:M.atoms.length+1≤N) (hk:keepT [47,48,49] [] T=[(47,I.a),(48,.int .i64 (M.atoms.length:Int)),(49,.int .i64 0)]) {q:Option (Ex×St)} (hq:codeEv (run A N) (ev A N).2 a180_L1 ⟨57,T,L,m⟩=q):
  ∃ T' L',(allI (fun _ (l:List Int)=>decide (l.length≤4096)) M.atoms 0=true∧q=some (.exit 0,⟨57,T',L',m⟩))∨(allI (fun _ (l:List Int)=>decide (l.length≤4096)) M.atoms 0=false∧q=some (.ret,⟨57,T',L',m⟩)∧look T' 2=.int .i64 3):=by
 have pa:=hm.a.plain
 obtain ⟨pa1,pa2,pa3,pa4⟩:=pa
 have h:=scan0 (A:=A) a180_L1 a180_B1 a180_L1_step (fun i (_:Unit) s=>∃ T L,s=⟨57,T,L,m⟩∧keepT [47,48,49] [] T=[(47,I.a),(48,.int .i64 (M.atoms.length:Int)),(49,.int .i64 (i:Int))]) (fun _ s=>∃ T L,s=⟨57,T,L,m⟩) (fun (_:Unit) s=>∃ T L,s=⟨57,T,L,m⟩∧look T 2=.int .i64 3) 0 1 (allS fun _ (l:List Int)=>decide (l.length≤4096)) M.atoms
  (fun N b s hN ⟨T,L,hs,hk⟩=>by
   subst hs
   have h':¬(M.atoms.length:Int) < (M.atoms.length:Int):=by omega
   unfold a180_B1
   exact ⟨_,by simp only [KK,Nat.reduceEqDiff,Nat.reduceLT,hk,h']; rfl,_,_,rfl⟩)
  (fun N i x b s hN hx ⟨T,L,hs,hk⟩=>by
   subst hs
   have hlt:=(List.getElem?_eq_some_iff.1 hx).1
   have h':(i:Int) < (M.atoms.length:Int):=by omega
   obtain ⟨b,o,cs,ow,w,e1,e2,e3,hw⟩:=hm.a.at hx
   obtain ⟨w1,w2,w3,w4⟩:=hw.plain
   have lw:=hw.lenR
   have a1:=add_i i (by omega)
   unfold allS
   by_cases hc:x.length≤4096
   ·have hd:decide (x.length≤4096)=true:=decide_eq_true hc
    have hc':¬(x.length:Int) > 4096:=by omega
    rw [if_pos hd]
    dsimp only
    unfold a180_B1
    exact ⟨_,by simp only [KK,Nat.reduceEqDiff,Nat.reduceLT,hk,h',e1,e2,e3,w1,lw,hc',a1,pa1]; rfl,_,_,rfl,by simp only [keepT,List.map,look_set,look_cons,in_int,Nat.reduceEqDiff,if_true,if_false,pa1]⟩
   ·have hd:¬decide (x.length≤4096)=true:=by simpa using hc
    have hc':(x.length:Int) > 4096:=by omega
    rw [if_neg hd]
    dsimp only
    unfold a180_B1
    exact ⟨_,by simp only [KK,Nat.reduceEqDiff,Nat.reduceLT,hk,h',e1,e2,e3,w1,lw,hc',pa1]; rfl,_,_,rfl,by simp only [look_set,if_true]⟩)
  N () ⟨57,T,L,m⟩ (by omega) ⟨T,L,rfl,hk⟩ hq
 rw [fold_all] at h
 cases hall:allI (fun _ (l:List Int)=>decide (l.length≤4096)) M.atoms 0
 ·rw [hall] at h
  obtain ⟨s',e,T',L',rfl,h2⟩:=h
  exact ⟨T',L',.inr ⟨rfl,e,h2⟩⟩
 ·rw [hall] at h
  obtain ⟨s',e,T',L',rfl⟩:=h
  exact ⟨T',L',.inl ⟨rfl,e⟩⟩
theorem sizes_run (N:Nat) (m:Mem) (I:ImV) (M:Img) (hm:IM m I M) (hN:M.atoms.length+2≤N):run A N 180 [.agg (ic I M)] m=some (.int .i64 (if sizesP M=true then 0 else 3),m):=by
 obtain ⟨n,rfl⟩:∃ n,N=n+1:=⟨N - 1,by omega⟩
 have hP:=hm.pls
 by_cases k0:(M.funcs.length:Int) > 64
 ·have hz:sizes1 M=false:=by unfold sizes1; rw [decide_eq_false_iff_not]; omega
  have hz':sizesP M=false:=by unfold sizesP; rw [hz]; rfl
  rw [hz',run_180]
  unfold fnEv a180
  simp only [KK,Nat.reduceEqDiff,Nat.reduceAdd,Nat.reduceLeDiff,Nat.reduceLT,a180_R1,hP,k0]
 by_cases k1:(M.code.length:Int) > 16384
 ·have hz:sizes1 M=false:=by unfold sizes1; rw [decide_eq_false_iff_not]; omega
  have hz':sizesP M=false:=by unfold sizesP; rw [hz]; rfl
  rw [hz',run_180]
  unfold fnEv a180
  simp only [KK,Nat.reduceEqDiff,Nat.reduceAdd,Nat.reduceLeDiff,Nat.reduceLT,a180_R1,hP,k0,k1]
 by_cases k2:(M.init.length:Int) > 4096
 ·have hz:sizes1 M=false:=by unfold sizes1; rw [decide_eq_false_iff_not]; omega
  have hz':sizesP M=false:=by unfold sizesP; rw [hz]; rfl
  rw [hz',run_180]
  unfold fnEv a180
  simp only [KK,Nat.reduceEqDiff,Nat.reduceAdd,Nat.reduceLeDiff,Nat.reduceLT,a180_R1,hP,k0,k1,k2]
 by_cases k3:(M.ports.length:Int) > 32
 ·have hz:sizes1 M=false:=by unfold sizes1; rw [decide_eq_false_iff_not]; omega
  have hz':sizesP M=false:=by unfold sizesP; rw [hz]; rfl
  rw [hz',run_180]
  unfold fnEv a180
  simp only [KK,Nat.reduceEqDiff,Nat.reduceAdd,Nat.reduceLeDiff,Nat.reduceLT,a180_R1,hP,k0,k1,k2,k3]
 by_cases k4:(M.atoms.length:Int) > 64
 ·have hz:sizes1 M=false:=by unfold sizes1; rw [decide_eq_false_iff_not]; omega
  have hz':sizesP M=false:=by unfold sizesP; rw [hz]; rfl
  rw [hz',run_180]
  unfold fnEv a180
  simp only [KK,Nat.reduceEqDiff,Nat.reduceAdd,Nat.reduceLeDiff,Nat.reduceLT,a180_R1,hP,k0,k1,k2,k3,k4]
 by_cases k5:(M.vecs.length:Int) > 32
 ·have hz:sizes1 M=false:=by unfold sizes1; rw [decide_eq_false_iff_not]; omega
  have hz':sizesP M=false:=by unfold sizesP; rw [hz]; rfl
  rw [hz',run_180]
  unfold fnEv a180
  simp only [KK,Nat.reduceEqDiff,Nat.reduceAdd,Nat.reduceLeDiff,Nat.reduceLT,a180_R1,hP,k0,k1,k2,k3,k4,k5]
 have hz:sizes1 M=true:=by unfold sizes1; rw [decide_eq_true_iff]; omega
 have hz':sizesP M=allI (fun _ (l:List Int)=>decide (l.length≤4096)) M.atoms 0:=by unfold sizesP; rw [hz]; rfl
 rw [hz',run_180]
 unfold fnEv a180
 simp only [KK,Nat.reduceEqDiff,Nat.reduceAdd,Nat.reduceLeDiff,Nat.reduceLT,a180_R1,hP,k0,k1,k2,k3,k4,k5]
 generalize hq:codeEv (run A n) (ev A n).2 a180_L1 _=q
 obtain ⟨T',L',⟨h1,rfl⟩ | ⟨h1,rfl,h2⟩⟩:=sizes_loop m I M hm (by omega) n _ _ (by omega) (by simp only [keepT,List.map,look_set,look_cons,in_int,Nat.reduceEqDiff,if_true,if_false,hP]) hq
 ·rw [h1]
  simp only [look_set,loc_int,Nat.reduceLT,if_true,if_false,Bool.false_eq_true]
 ·rw [h1]
  simp only [loc_int,if_false,Bool.false_eq_true,h2]
def funcP (M:Img) (i:Nat) (x:FF):Bool:=!(decide ((i:Int)=0)&&!decide (fromP M i=0))&&(!decide (fromP M i < 0)&&(!decide (toP M i≤fromP M i)&&(!decide ((M.code.length:Int) < toP M i)&&(!decide (x.params < 0)&&(!decide (x.locals < x.params)&&!decide (64 < x.locals))))))
def plainF (M:Img) (f:Int):Bool:=decide (0≤f)&&(match M.funcs[f.toNat]? with | some x=>decide (x.params=0) | none=>false)
def funcs1 (M:Img):Bool:=!decide ((M.funcs.length:Int)=0)&&(!decide (M.stack < 1)&&(!decide (65536 < M.stack)&&plainF M M.main))
def funcsP (M:Img):Bool:=funcs1 M&&allI (funcP M) M.funcs 0
theorem func_body (m:Mem) (I:ImV) (M:Img) (hm:IM m I M) (hl:M.funcs.length≤1000) (N i:Nat) (x:FF) (hN:1≤N) (hx:M.funcs[i]?=some x) (T:List (Nat×AV)) (L:List (Nat×List AV)) (hk:keepT [1,54,55,56] [1] T=[(1,.loc 1 0),(54,I.f),(55,.int .i64 (M.funcs.length:Int)),(56,.int .i64 (i:Int))]) (hL:lookL L 1=some (ic I M)) (again:AC→St→Option (Ex×St)):
  (funcP M i x=true∧∃ T' L',codeEv (run A N) again a181_B1 ⟨108,T,L,m⟩=some (.norm,⟨108,T',L',m⟩)∧keepT [1,54,55,56] [1] T'=[(1,.loc 1 0),(54,I.f),(55,.int .i64 (M.funcs.length:Int)),(56,.int .i64 ((i+1:Nat):Int))]∧lookL L' 1=some (ic I M))∨(funcP M i x=false∧∃ T' L',codeEv (run A N) again a181_B1 ⟨108,T,L,m⟩=some (.ret,⟨108,T',L',m⟩)∧look T' 2=.int .i64 2):=by
 have hP:=hm.pls
 have hlt:=(List.getElem?_eq_some_iff.1 hx).1
 have h':(i:Int) < (M.funcs.length:Int):=by omega
 obtain ⟨b,o,cs,ow,e1,e2,e3,_,_,_⟩:=hm.f.ff hx
 have a1:=add_i i (by omega)
 have hb:=bounds_run N hN m I M hm i hlt (by omega)
 unfold a181_B1
 cases d0:decide ((i:Int)=0)
 ·cases d2:decide (fromP M i < 0)
  rotate_left
  ·refine .inr ⟨by simp only [funcP,d0,d2,Bool.not_false,Bool.not_true,Bool.false_and,Bool.and_false],_,_,by simp only [KK,Nat.reduceEqDiff,Nat.reduceAdd,Nat.reduceLeDiff,Nat.reduceLT,a181_R2,a181_R3,hk,hL,hP,h',e1,e2,e3,hb,d0,d2]; rfl,by simp only [look_set,if_true]⟩
  cases d3:decide (toP M i≤fromP M i)
  rotate_left
  ·refine .inr ⟨by simp only [funcP,d0,d2,d3,Bool.not_false,Bool.not_true,Bool.false_and,Bool.and_false],_,_,by simp only [KK,Nat.reduceEqDiff,Nat.reduceAdd,Nat.reduceLeDiff,Nat.reduceLT,a181_R2,a181_R3,hk,hL,hP,h',e1,e2,e3,hb,d0,d2,d3]; rfl,by simp only [look_set,if_true]⟩
  cases d4:decide ((M.code.length:Int) < toP M i)
  rotate_left
  ·refine .inr ⟨by simp only [funcP,d0,d2,d3,d4,Bool.not_false,Bool.not_true,Bool.false_and,Bool.and_false],_,_,by simp only [KK,Nat.reduceEqDiff,Nat.reduceAdd,Nat.reduceLeDiff,Nat.reduceLT,a181_R2,a181_R3,hk,hL,hP,h',e1,e2,e3,hb,d0,d2,d3,d4]; rfl,by simp only [look_set,if_true]⟩
  cases d5:decide (x.params < 0)
  rotate_left
  ·refine .inr ⟨by simp only [funcP,d0,d2,d3,d4,d5,Bool.not_false,Bool.not_true,Bool.false_and,Bool.and_false],_,_,by simp only [KK,Nat.reduceEqDiff,Nat.reduceAdd,Nat.reduceLeDiff,Nat.reduceLT,a181_R2,a181_R3,hk,hL,hP,h',e1,e2,e3,hb,d0,d2,d3,d4,d5]; rfl,by simp only [look_set,if_true]⟩
  cases d6:decide (x.locals < x.params)
  rotate_left
  ·refine .inr ⟨by simp only [funcP,d0,d2,d3,d4,d5,d6,Bool.not_false,Bool.not_true,Bool.false_and,Bool.and_false],_,_,by simp only [KK,Nat.reduceEqDiff,Nat.reduceAdd,Nat.reduceLeDiff,Nat.reduceLT,a181_R2,a181_R3,hk,hL,hP,h',e1,e2,e3,hb,d0,d2,d3,d4,d5,d6]; rfl,by simp only [look_set,if_true]⟩
  cases d7:decide (64 < x.locals)
  rotate_left
  ·refine .inr ⟨by simp only [funcP,d0,d2,d3,d4,d5,d6,d7,Bool.not_false,Bool.not_true,Bool.false_and,Bool.and_false],_,_,by simp only [KK,Nat.reduceEqDiff,Nat.reduceAdd,Nat.reduceLeDiff,Nat.reduceLT,a181_R2,a181_R3,hk,hL,hP,h',e1,e2,e3,hb,d0,d2,d3,d4,d5,d6,d7]; rfl,by simp only [look_set,if_true]⟩
  refine .inl ⟨by simp only [funcP,d0,d2,d3,d4,d5,d6,d7,Bool.not_false,Bool.and_true,Bool.false_and],_,_,by simp only [KK,Nat.reduceEqDiff,Nat.reduceAdd,Nat.reduceLeDiff,Nat.reduceLT,a181_R2,a181_R3,hk,hL,hP,h',e1,e2,e3,a1,hb,d0,d2,d3,d4,d5,d6,d7]; rfl,by simp only [keepT,List.map,look_set,look_cons,in_int,in_loc,Nat.reduceEqDiff,if_true,if_false,List.contains_cons,List.contains_nil,beq_self_eq_true,Bool.or_false,hP],by simp only [lookL_cons,if_true]⟩
 ·cases d1:decide (fromP M i=0)
  ·refine .inr ⟨by simp only [funcP,d0,d1,Bool.not_false,Bool.not_true,Bool.and_true,Bool.false_and],_,_,by simp only [KK,Nat.reduceEqDiff,Nat.reduceAdd,Nat.reduceLeDiff,Nat.reduceLT,a181_R2,a181_R3,hk,hL,hP,h',e1,e2,e3,hb,d0,d1]; rfl,by simp only [look_set,if_true]⟩
  ·cases d2:decide (fromP M i < 0)
   rotate_left
   ·refine .inr ⟨by simp only [funcP,d0,d1,d2,Bool.not_false,Bool.not_true,Bool.false_and,Bool.and_false],_,_,by simp only [KK,Nat.reduceEqDiff,Nat.reduceAdd,Nat.reduceLeDiff,Nat.reduceLT,a181_R2,a181_R3,hk,hL,hP,h',e1,e2,e3,hb,d0,d1,d2]; rfl,by simp only [look_set,if_true]⟩
   cases d3:decide (toP M i≤fromP M i)
   rotate_left
   ·refine .inr ⟨by simp only [funcP,d0,d1,d2,d3,Bool.not_false,Bool.not_true,Bool.false_and,Bool.and_false],_,_,by simp only [KK,Nat.reduceEqDiff,Nat.reduceAdd,Nat.reduceLeDiff,Nat.reduceLT,a181_R2,a181_R3,hk,hL,hP,h',e1,e2,e3,hb,d0,d1,d2,d3]; rfl,by simp only [look_set,if_true]⟩
   cases d4:decide ((M.code.length:Int) < toP M i)
   rotate_left
   ·refine .inr ⟨by simp only [funcP,d0,d1,d2,d3,d4,Bool.not_false,Bool.not_true,Bool.false_and,Bool.and_false],_,_,by simp only [KK,Nat.reduceEqDiff,Nat.reduceAdd,Nat.reduceLeDiff,Nat.reduceLT,a181_R2,a181_R3,hk,hL,hP,h',e1,e2,e3,hb,d0,d1,d2,d3,d4]; rfl,by simp only [look_set,if_true]⟩
   cases d5:decide (x.params < 0)
   rotate_left
   ·refine .inr ⟨by simp only [funcP,d0,d1,d2,d3,d4,d5,Bool.not_false,Bool.not_true,Bool.false_and,Bool.and_false],_,_,by simp only [KK,Nat.reduceEqDiff,Nat.reduceAdd,Nat.reduceLeDiff,Nat.reduceLT,a181_R2,a181_R3,hk,hL,hP,h',e1,e2,e3,hb,d0,d1,d2,d3,d4,d5]; rfl,by simp only [look_set,if_true]⟩
   cases d6:decide (x.locals < x.params)
   rotate_left
   ·refine .inr ⟨by simp only [funcP,d0,d1,d2,d3,d4,d5,d6,Bool.not_false,Bool.not_true,Bool.false_and,Bool.and_false],_,_,by simp only [KK,Nat.reduceEqDiff,Nat.reduceAdd,Nat.reduceLeDiff,Nat.reduceLT,a181_R2,a181_R3,hk,hL,hP,h',e1,e2,e3,hb,d0,d1,d2,d3,d4,d5,d6]; rfl,by simp only [look_set,if_true]⟩
   cases d7:decide (64 < x.locals)
   rotate_left
   ·refine .inr ⟨by simp only [funcP,d0,d1,d2,d3,d4,d5,d6,d7,Bool.not_false,Bool.not_true,Bool.and_false],_,_,by simp only [KK,Nat.reduceEqDiff,Nat.reduceAdd,Nat.reduceLeDiff,Nat.reduceLT,a181_R2,a181_R3,hk,hL,hP,h',e1,e2,e3,hb,d0,d1,d2,d3,d4,d5,d6,d7]; rfl,by simp only [look_set,if_true]⟩
   refine .inl ⟨by simp only [funcP,d0,d1,d2,d3,d4,d5,d6,d7,Bool.not_false,Bool.not_true,Bool.and_true,Bool.and_false],_,_,by simp only [KK,Nat.reduceEqDiff,Nat.reduceAdd,Nat.reduceLeDiff,Nat.reduceLT,a181_R2,a181_R3,hk,hL,hP,h',e1,e2,e3,a1,hb,d0,d1,d2,d3,d4,d5,d6,d7]; rfl,by simp only [keepT,List.map,look_set,look_cons,in_int,in_loc,Nat.reduceEqDiff,if_true,if_false,List.contains_cons,List.contains_nil,beq_self_eq_true,Bool.or_false,hP],by simp only [lookL_cons,if_true]⟩
theorem funcs_loop (m:Mem) (I:ImV) (M:Img) (hm:IM m I M) (hl:M.funcs.length≤1000) (N:Nat) (T:List (Nat×AV)) (L:List (Nat×List AV)) (hN:M.funcs.length+1≤N) (hk:keepT [1,54,55,56] [1] T=[(1,.loc 1 0),(54,I.f),(55,.int .i64 (M.funcs.length:Int)),(56,.int .i64 0)]) (hL:lookL L 1=some (ic I M)) {q:Option (Ex×St)} (hq:codeEv (run A N) (ev A N).2 a181_L1 ⟨108,T,L,m⟩=q):
  ∃ T' L',(allI (funcP M) M.funcs 0=true∧q=some (.exit 0,⟨108,T',L',m⟩))∨(allI (funcP M) M.funcs 0=false∧q=some (.ret,⟨108,T',L',m⟩)∧look T' 2=.int .i64 2):=by
 have hP:=hm.pls
 have h:=scan0 (A:=A) a181_L1 a181_B1 a181_L1_step (fun i (_:Unit) s=>∃ T L,s=⟨108,T,L,m⟩∧keepT [1,54,55,56] [1] T=[(1,.loc 1 0),(54,I.f),(55,.int .i64 (M.funcs.length:Int)),(56,.int .i64 (i:Int))]∧lookL L 1=some (ic I M)) (fun _ s=>∃ T L,s=⟨108,T,L,m⟩) (fun (_:Unit) s=>∃ T L,s=⟨108,T,L,m⟩∧look T 2=.int .i64 2) 0 1 (allS (funcP M)) M.funcs
  (fun N b s hN ⟨T,L,hs,hk,hL⟩=>by
   subst hs
   have h':¬(M.funcs.length:Int) < (M.funcs.length:Int):=by omega
   unfold a181_B1
   exact ⟨_,by simp only [KK,Nat.reduceEqDiff,Nat.reduceLT,hk,hL,h']; rfl,_,_,rfl⟩)
  (fun N i x b s hN hx ⟨T,L,hs,hk,hL⟩=>by
   subst hs
   unfold allS
   rcases func_body m I M hm hl N i x hN hx T L hk hL (ev A N).2 with ⟨h1,T',L',e1,e2,e3⟩ | ⟨h1,T',L',e1,e2⟩
   ·rw [if_pos h1]
    exact ⟨_,e1,_,_,rfl,e2,e3⟩
   ·rw [if_neg (by rw [h1]; simp)]
    exact ⟨_,e1,_,_,rfl,e2⟩)
  N () ⟨108,T,L,m⟩ (by omega) ⟨T,L,rfl,hk,hL⟩ hq
 rw [fold_all] at h
 cases hall:allI (funcP M) M.funcs 0
 ·rw [hall] at h
  obtain ⟨s',e,T',L',rfl,h2⟩:=h
  exact ⟨T',L',.inr ⟨rfl,e,h2⟩⟩
 ·rw [hall] at h
  obtain ⟨s',e,T',L',rfl⟩:=h
  exact ⟨T',L',.inl ⟨rfl,e⟩⟩
theorem funcs_run (N:Nat) (m:Mem) (I:ImV) (M:Img) (hm:IM m I M) (hl:M.funcs.length≤1000) (hN:M.funcs.length+2≤N):run A N 181 [.agg (ic I M)] m=some (.int .i64 (if funcsP M=true then 0 else 2),m):=by
 obtain ⟨n,rfl⟩:∃ n,N=n+1:=⟨N - 1,by omega⟩
 have hP:=hm.pls
 cases d1:decide ((M.funcs.length:Int)=0)
 rotate_left
 ·have hz:funcsP M=false:=by simp only [funcsP,funcs1,d1,Bool.not_true,Bool.false_and]
  rw [hz,run_181]
  unfold fnEv a181
  simp only [KK,Nat.reduceEqDiff,Nat.reduceAdd,Nat.reduceLeDiff,Nat.reduceLT,a181_R1,hP,d1]
 cases d2:decide (M.stack < 1)
 rotate_left
 ·have hz:funcsP M=false:=by simp only [funcsP,funcs1,d1,d2,Bool.not_false,Bool.not_true,Bool.false_and,Bool.and_false]
  rw [hz,run_181]
  unfold fnEv a181
  simp only [KK,Nat.reduceEqDiff,Nat.reduceAdd,Nat.reduceLeDiff,Nat.reduceLT,a181_R1,hP,d1,d2]
 cases d3:decide (65536 < M.stack)
 rotate_left
 ·have hz:funcsP M=false:=by simp only [funcsP,funcs1,d1,d2,d3,Bool.not_false,Bool.not_true,Bool.false_and,Bool.and_false]
  rw [hz,run_181]
  unfold fnEv a181
  simp only [KK,Nat.reduceEqDiff,Nat.reduceAdd,Nat.reduceLeDiff,Nat.reduceLT,a181_R1,hP,d1,d2,d3]
 cases d4:decide (M.main < 0)
 rotate_left
 ·have hpm:plainF M M.main=false:=by unfold plainF; rw [decide_eq_false (by have:=of_decide_eq_true d4; omega)]; rfl
  have hz:funcsP M=false:=by simp only [funcsP,funcs1,d1,d2,d3,hpm,Bool.not_false,Bool.false_and,Bool.and_false]
  rw [hz,run_181]
  unfold fnEv a181
  simp only [KK,Nat.reduceEqDiff,Nat.reduceAdd,Nat.reduceLeDiff,Nat.reduceLT,a181_R1,hP,d1,d2,d3,d4]
 cases d5:decide ((M.funcs.length:Int)≤M.main)
 rotate_left
 ·have hpm:plainF M M.main=false:=by unfold plainF; have h1:=of_decide_eq_true d5; have h2:=of_decide_eq_false d4; rw [List.getElem?_eq_none (by omega)]; simp
  have hz:funcsP M=false:=by simp only [funcsP,funcs1,d1,d2,d3,hpm,Bool.not_false,Bool.false_and,Bool.and_false]
  rw [hz,run_181]
  unfold fnEv a181
  simp only [KK,Nat.reduceEqDiff,Nat.reduceAdd,Nat.reduceLeDiff,Nat.reduceLT,a181_R1,hP,d1,d2,d3,d4,d5]
 obtain ⟨k,hk⟩:∃ k:Nat,M.main=(k:Int):=⟨M.main.toNat,by have:=of_decide_eq_false d4; omega⟩
 have hkl:k < M.funcs.length:=by have:=of_decide_eq_false d5; omega
 obtain ⟨x,hx⟩:∃ x,M.funcs[k]?=some x:=⟨_,List.getElem?_eq_getElem hkl⟩
 obtain ⟨b,o,cs,ow,e1,e2,_,_,e4,_⟩:=hm.f.ff hx
 rw [←hk] at e1
 have hp:plainF M M.main=decide (x.params=0):=by
  unfold plainF
  rw [hk,Int.toNat_natCast,hx,decide_eq_true (by omega)]
  rfl
 cases d6:decide (x.params=0)
 ·rw [d6] at hp
  have hz:funcsP M=false:=by simp only [funcsP,funcs1,hp,Bool.and_false,Bool.false_and]
  rw [hz,run_181]
  unfold fnEv a181
  simp only [KK,Nat.reduceEqDiff,Nat.reduceAdd,Nat.reduceLeDiff,Nat.reduceLT,a181_R1,hP,d1,d2,d3,d4,d5,d6,e1,e2,e4]
 ·rw [d6] at hp
  have hz:funcsP M=allI (funcP M) M.funcs 0:=by simp only [funcsP,funcs1,d1,d2,d3,hp,Bool.not_false,Bool.and_true,Bool.true_and]
  rw [hz,run_181]
  unfold fnEv a181
  simp only [KK,Nat.reduceEqDiff,Nat.reduceAdd,Nat.reduceLeDiff,Nat.reduceLT,a181_R1,hP,d1,d2,d3,d4,d5,d6,e1,e2,e4]
  generalize hq:codeEv (run A n) (ev A n).2 a181_L1 _=q
  obtain ⟨T',L',⟨h1,rfl⟩ | ⟨h1,rfl,h2⟩⟩:=funcs_loop m I M hm hl n _ _ (by omega) (by simp only [keepT,List.map,look_set,look_cons,in_int,in_loc,Nat.reduceEqDiff,if_true,if_false,List.contains_cons,List.contains_nil,beq_self_eq_true,Bool.or_false,hP]) (by simp only [lookL_cons,if_true]) hq
  ·rw [h1]
   simp only [look_set,loc_int,Nat.reduceLT,if_true,if_false,Bool.false_eq_true]
  ·rw [h1]
   simp only [loc_int,if_false,Bool.false_eq_true,h2,Bool.false_eq_true]
theorem has_run (N:Nat) (hN:1≤N) (s:BitVec 32) (k:Int) (m:Mem):run A N 190 [U s,.int .i64 k] m=some (.bool (hasI s k),m):=by
 obtain ⟨n,rfl⟩:∃ n,N=n+1:=⟨N - 1,by omega⟩
 rw [run_190]
 unfold fnEv a190 hasI
 by_cases h1:0≤k
 ·have e:=bin_shr s .i64 k h1
  by_cases h2:k < 32
  ·simp only [KK,Nat.reduceEqDiff,Nat.reduceAdd,Nat.reduceLT,h1,h2,e,bit_and]
  ·simp only [KK,Nat.reduceEqDiff,Nat.reduceAdd,Nat.reduceLT,h1,h2]
 ·simp only [KK,Nat.reduceEqDiff,Nat.reduceAdd,Nat.reduceLT,h1]
theorem RS.vv {m:Mem} {v:AV} {l:List V} (hv:RS V.c 3 m v l) {i:Nat} {x:V} (hx:l[i]?=some x):∃ b o cs ow,(∀ s,elemR 3 v (.int .i64 (i:Int)) s=some (.ptr b o,s))∧m.get b=some (.cells cs ow)∧cellsAt cs o 3=some [.int .i64 x.line,.int .i64 x.prio,.int .i64 x.fn]:=by
 obtain ⟨b,o,cs,ow,h1,h2,h3⟩:=hv.at hx
 exact ⟨b,o,cs,ow,h1,h2,h3⟩
def lineS (_:Nat) (x:V) (s:BitVec 32):Stp (BitVec 32) Unit:=if okV x=true then (if hasI s x.line=true then .ret () else .go (s ||| 1#32 <<< x.line.toNat)) else .ret ()
theorem fold_line:∀ (l:List V) (i:Nat) (s:BitVec 32),(match foldS lineS l i s with | .inl _=>true | .inr _=>false)=checkL s l
 | [],i,s=>rfl
 | v::r,i,s=>by
  rw [checkL]
  by_cases h:okV v=true
  ·by_cases h2:hasI s v.line=true
   ·have e:lineS i v s=.ret ():=by unfold lineS; rw [if_pos h,if_pos h2]
    simp only [foldS,e,h,h2,Bool.not_true,Bool.false_and,Bool.and_false]
   ·have e:lineS i v s=.go (s ||| 1#32 <<< v.line.toNat):=by unfold lineS; rw [if_pos h,if_neg h2]
    have h2':hasI s v.line=false:=by simpa using h2
    simp only [foldS,e,h,h2',Bool.not_false,Bool.true_and]
    exact fold_line r (i+1) _
  ·have e:lineS i v s=.ret ():=by unfold lineS; rw [if_neg h]
   have h':okV v=false:=by simpa using h
   simp only [foldS,e,h',Bool.false_and]
theorem line_body (m:Mem) (v:AV) (l:List V) (hv:RS V.c 3 m v l) (hl:l.length≤1000) (N i:Nat) (x:V) (s:BitVec 32) (hN:1≤N) (hx:l[i]?=some x) (T:List (Nat×AV)) (L:List (Nat×List AV)) (hk:keepT [3,9,10,11] [] T=[(3,U s),(9,v),(10,.int .i64 (l.length:Int)),(11,.int .i64 (i:Int))]) (again:AC→St→Option (Ex×St)):
  match lineS i x s with
  | .go s'=>∃ T' L',codeEv (run A N) again a186_B1 ⟨50,T,L,m⟩=some (.norm,⟨50,T',L',m⟩)∧keepT [3,9,10,11] [] T'=[(3,U s'),(9,v),(10,.int .i64 (l.length:Int)),(11,.int .i64 ((i+1:Nat):Int))]
  | .brk _=>False
  | .ret _=>∃ T' L',codeEv (run A N) again a186_B1 ⟨50,T,L,m⟩=some (.ret,⟨50,T',L',m⟩)∧look T' 2=.int .i64 2:=by
 obtain ⟨p1,p2,p3,p4⟩:=hv.plain
 have hlt:=(List.getElem?_eq_some_iff.1 hx).1
 have h':(i:Int) < (l.length:Int):=by omega
 obtain ⟨b,o,cs,ow,e1,e2,e3⟩:=hv.vv hx
 have a1:=add_i i (by omega)
 have hh:=has_run N hN s x.line m
 unfold lineS
 cases d1:decide (x.line < 0)
 rotate_left
 ·have hz:okV x=false:=by simp only [okV,d1,Bool.not_true,Bool.false_and]
  rw [if_neg (by rw [hz]; simp)]
  dsimp only
  unfold a186_B1
  exact ⟨_,_,by simp only [KK,Nat.reduceEqDiff,Nat.reduceAdd,Nat.reduceLeDiff,Nat.reduceLT,a186_R1,hk,p1,h',e1,e2,e3,d1]; rfl,by simp only [look_set,if_true]⟩
 cases d2:decide (31 < x.line)
 rotate_left
 ·have hz:okV x=false:=by simp only [okV,d1,d2,Bool.not_false,Bool.not_true,Bool.false_and,Bool.and_false]
  rw [if_neg (by rw [hz]; simp)]
  dsimp only
  unfold a186_B1
  exact ⟨_,_,by simp only [KK,Nat.reduceEqDiff,Nat.reduceAdd,Nat.reduceLeDiff,Nat.reduceLT,a186_R1,hk,p1,h',e1,e2,e3,d1,d2]; rfl,by simp only [look_set,if_true]⟩
 cases d3:decide (x.prio < 1)
 rotate_left
 ·have hz:okV x=false:=by simp only [okV,d1,d2,d3,Bool.not_false,Bool.not_true,Bool.false_and,Bool.and_false]
  rw [if_neg (by rw [hz]; simp)]
  dsimp only
  unfold a186_B1
  exact ⟨_,_,by simp only [KK,Nat.reduceEqDiff,Nat.reduceAdd,Nat.reduceLeDiff,Nat.reduceLT,a186_R1,hk,p1,h',e1,e2,e3,d1,d2,d3]; rfl,by simp only [look_set,if_true]⟩
 cases d4:decide (15 < x.prio)
 rotate_left
 ·have hz:okV x=false:=by simp only [okV,d1,d2,d3,d4,Bool.not_false,Bool.not_true,Bool.false_and,Bool.and_false]
  rw [if_neg (by rw [hz]; simp)]
  dsimp only
  unfold a186_B1
  exact ⟨_,_,by simp only [KK,Nat.reduceEqDiff,Nat.reduceAdd,Nat.reduceLeDiff,Nat.reduceLT,a186_R1,hk,p1,h',e1,e2,e3,d1,d2,d3,d4]; rfl,by simp only [look_set,if_true]⟩
 cases d5:decide (x.fn < 0)
 rotate_left
 ·have hz:okV x=false:=by simp only [okV,d1,d2,d3,d4,d5,Bool.not_false,Bool.not_true,Bool.and_false]
  rw [if_neg (by rw [hz]; simp)]
  dsimp only
  unfold a186_B1
  exact ⟨_,_,by simp only [KK,Nat.reduceEqDiff,Nat.reduceAdd,Nat.reduceLeDiff,Nat.reduceLT,a186_R1,hk,p1,h',e1,e2,e3,d1,d2,d3,d4,d5]; rfl,by simp only [look_set,if_true]⟩
 have hz:okV x=true:=by simp only [okV,d1,d2,d3,d4,d5,Bool.not_false,Bool.and_true]
 rw [if_pos hz]
 cases hi:hasI s x.line
 ·rw [if_neg (by simp)]
  have hsh:=u_or x.line s (by have:=of_decide_eq_false d1; omega)
  dsimp only
  unfold a186_B1
  exact ⟨_,_,by simp only [KK,Nat.reduceEqDiff,Nat.reduceAdd,Nat.reduceLeDiff,Nat.reduceLT,a186_R1,hk,p1,h',e1,e2,e3,a1,hh,d1,d2,d3,d4,d5,hi,hsh]; rfl,by simp only [keepT,List.map,look_set,look_cons,in_int,in_U,Nat.reduceEqDiff,if_true,if_false,p1]⟩
 ·rw [if_pos rfl]
  dsimp only
  unfold a186_B1
  exact ⟨_,_,by simp only [KK,Nat.reduceEqDiff,Nat.reduceAdd,Nat.reduceLeDiff,Nat.reduceLT,a186_R1,hk,p1,h',e1,e2,e3,hh,d1,d2,d3,d4,d5,hi]; rfl,by simp only [look_set,if_true]⟩
theorem lcheck_run (N:Nat) (m:Mem) (v:AV) (l:List V) (hv:RS V.c 3 m v l) (hl:l.length≤1000) (hN:l.length+2≤N):run A N 186 [v] m=some (.int .i64 (checkV l),m):=by
 obtain ⟨n,rfl⟩:∃ n,N=n+1:=⟨N - 1,by omega⟩
 obtain ⟨p1,p2,p3,p4⟩:=hv.plain
 have lv:=hv.lenR
 rw [run_186]
 unfold checkV
 by_cases h32:32 < l.length
 ·rw [if_pos h32]
  have h':(l.length:Int) > 32:=by omega
  unfold fnEv a186
  simp only [KK,Nat.reduceEqDiff,Nat.reduceAdd,Nat.reduceLT,p1,lv,h']
 ·rw [if_neg h32]
  have h':¬(l.length:Int) > 32:=by omega
  have hz0:AV.int .u32 0=U 0#32:=rfl
  unfold fnEv a186
  simp only [KK,Nat.reduceEqDiff,Nat.reduceAdd,Nat.reduceLT,p1,lv,h']
  generalize hq:codeEv (run A n) (ev A n).2 a186_L1 _=q
  have h:=scan0 (A:=A) a186_L1 a186_B1 a186_L1_step (fun i s st=>∃ T L,st=⟨50,T,L,m⟩∧keepT [3,9,10,11] [] T=[(3,U s),(9,v),(10,.int .i64 (l.length:Int)),(11,.int .i64 (i:Int))]) (fun _ s=>∃ T L,s=⟨50,T,L,m⟩) (fun (_:Unit) s=>∃ T L,s=⟨50,T,L,m⟩∧look T 2=.int .i64 2) 0 1 lineS l
   (fun N b s hN ⟨T,L,hs,hk⟩=>by
    subst hs
    have h':¬(l.length:Int) < (l.length:Int):=by omega
    unfold a186_B1
    exact ⟨_,by simp only [KK,Nat.reduceEqDiff,Nat.reduceLT,hk,h']; rfl,_,_,rfl⟩)
   (fun N i x b s hN hx ⟨T,L,hs,hk⟩=>by
    subst hs
    have h:=line_body m v l hv hl N i x b hN hx T L hk (ev A N).2
    cases hf:lineS i x b with
    | go b'=>
     rw [hf] at h
     obtain ⟨T',L',e1,e2⟩:=h
     exact ⟨_,e1,_,_,rfl,e2⟩
    | brk b'=>rw [hf] at h; exact h.elim
    | ret b'=>
     rw [hf] at h
     obtain ⟨T',L',e1,e2⟩:=h
     exact ⟨_,e1,_,_,rfl,e2⟩)
   n 0#32 _ (by omega) ⟨_,_,rfl,by simp only [keepT,List.map,look_set,look_cons,in_int,in_U,Nat.reduceEqDiff,if_true,if_false,p1]; rfl⟩ hq
  have hf:=fold_line l 0 0#32
  cases hr:foldS lineS l 0 0#32 with
  | inl b=>
   rw [hr] at h hf
   dsimp only at h hf
   obtain ⟨s',rfl,T',L',rfl⟩:=h
   rw [←hf]
   simp only [look_set,loc_int,Nat.reduceLT,if_true,if_false,Bool.false_eq_true]
  | inr b=>
   rw [hr] at h hf
   dsimp only at h hf
   obtain ⟨s',rfl,T',L',rfl,h2⟩:=h
   rw [←hf]
   simp only [loc_int,if_false,Bool.false_eq_true,h2]
def vecP (M:Img) (_:Nat) (x:V):Bool:=!decide ((M.funcs.length:Int)≤x.fn)&&(!decide (x.fn=M.main)&&plainF M x.fn)
def vecsP (M:Img):Bool:=decide (checkV M.vecs=0)&&allI (vecP M) M.vecs 0
theorem vec_body (m:Mem) (I:ImV) (M:Img) (hm:IM m I M) (hl:M.vecs.length≤1000) (N i:Nat) (x:V) (h0:0≤x.fn) (hx:M.vecs[i]?=some x) (T:List (Nat×AV)) (L:List (Nat×List AV)) (hk:keepT [1,12,13,14] [1] T=[(1,.loc 1 0),(12,I.v),(13,.int .i64 (M.vecs.length:Int)),(14,.int .i64 (i:Int))]) (hL:lookL L 1=some (ic I M)) (again:AC→St→Option (Ex×St)):
  (vecP M i x=true∧∃ T' L',codeEv (run A N) again a182_B1 ⟨45,T,L,m⟩=some (.norm,⟨45,T',L',m⟩)∧keepT [1,12,13,14] [1] T'=[(1,.loc 1 0),(12,I.v),(13,.int .i64 (M.vecs.length:Int)),(14,.int .i64 ((i+1:Nat):Int))]∧lookL L' 1=some (ic I M))∨(vecP M i x=false∧∃ T' L',codeEv (run A N) again a182_B1 ⟨45,T,L,m⟩=some (.ret,⟨45,T',L',m⟩)∧look T' 2=.int .i64 2):=by
 have hP:=hm.pls
 have hlt:=(List.getElem?_eq_some_iff.1 hx).1
 have h':(i:Int) < (M.vecs.length:Int):=by omega
 obtain ⟨b,o,cs,ow,e1,e2,e3⟩:=hm.v.vv hx
 have a1:=add_i i (by omega)
 unfold a182_B1
 cases d1:decide ((M.funcs.length:Int)≤x.fn)
 rotate_left
 ·exact .inr ⟨by simp only [vecP,d1,Bool.not_true,Bool.false_and],_,_,by simp only [KK,Nat.reduceEqDiff,Nat.reduceAdd,Nat.reduceLeDiff,Nat.reduceLT,a182_R1,hk,hL,hP,h',e1,e2,e3,d1]; rfl,by simp only [look_set,if_true]⟩
 cases d2:decide (x.fn=M.main)
 rotate_left
 ·exact .inr ⟨by simp only [vecP,d1,d2,Bool.not_false,Bool.not_true,Bool.false_and,Bool.and_false],_,_,by simp only [KK,Nat.reduceEqDiff,Nat.reduceAdd,Nat.reduceLeDiff,Nat.reduceLT,a182_R1,hk,hL,hP,h',e1,e2,e3,d1,d2]; rfl,by simp only [look_set,if_true]⟩
 obtain ⟨k,hk0⟩:∃ k:Nat,x.fn=(k:Int):=⟨x.fn.toNat,by omega⟩
 have hkl:k < M.funcs.length:=by have:=of_decide_eq_false d1; omega
 obtain ⟨y,hy⟩:∃ y,M.funcs[k]?=some y:=⟨_,List.getElem?_eq_getElem hkl⟩
 obtain ⟨b2,o2,cs2,ow2,g1,g2,_,_,g3,_⟩:=hm.f.ff hy
 rw [←hk0] at g1
 have hp:plainF M x.fn=decide (y.params=0):=by
  unfold plainF
  rw [hk0,Int.toNat_natCast,hy,decide_eq_true (by omega)]
  rfl
 cases d3:decide (y.params=0)
 ·rw [d3] at hp
  exact .inr ⟨by simp only [vecP,d1,d2,hp,Bool.not_false,Bool.and_false],_,_,by simp only [KK,Nat.reduceEqDiff,Nat.reduceAdd,Nat.reduceLeDiff,Nat.reduceLT,a182_R1,hk,hL,hP,h',e1,e2,e3,d1,d2,d3,g1,g2,g3]; rfl,by simp only [look_set,if_true]⟩
 ·rw [d3] at hp
  exact .inl ⟨by simp only [vecP,d1,d2,hp,Bool.not_false,Bool.and_true],_,_,by simp only [KK,Nat.reduceEqDiff,Nat.reduceAdd,Nat.reduceLeDiff,Nat.reduceLT,a182_R1,hk,hL,hP,h',e1,e2,e3,a1,d1,d2,d3,g1,g2,g3]; rfl,by simp only [keepT,List.map,look_set,look_cons,in_int,in_loc,Nat.reduceEqDiff,if_true,if_false,List.contains_cons,List.contains_nil,beq_self_eq_true,Bool.or_false,hP],by simp only [lookL_cons,if_true]⟩
theorem vecs_loop (m:Mem) (I:ImV) (M:Img) (hm:IM m I M) (hl:M.vecs.length≤1000) (hv:∀ x∈M.vecs,0≤x.fn) (N:Nat) (T:List (Nat×AV)) (L:List (Nat×List AV)) (hN:M.vecs.length+1≤N) (hk:keepT [1,12,13,14] [1] T=[(1,.loc 1 0),(12,I.v),(13,.int .i64 (M.vecs.length:Int)),(14,.int .i64 0)]) (hL:lookL L 1=some (ic I M)) {q:Option (Ex×St)} (hq:codeEv (run A N) (ev A N).2 a182_L1 ⟨45,T,L,m⟩=q):
  ∃ T' L',(allI (vecP M) M.vecs 0=true∧q=some (.exit 0,⟨45,T',L',m⟩))∨(allI (vecP M) M.vecs 0=false∧q=some (.ret,⟨45,T',L',m⟩)∧look T' 2=.int .i64 2):=by
 have hP:=hm.pls
 have h:=scan0 (A:=A) a182_L1 a182_B1 a182_L1_step (fun i (_:Unit) s=>∃ T L,s=⟨45,T,L,m⟩∧keepT [1,12,13,14] [1] T=[(1,.loc 1 0),(12,I.v),(13,.int .i64 (M.vecs.length:Int)),(14,.int .i64 (i:Int))]∧lookL L 1=some (ic I M)) (fun _ s=>∃ T L,s=⟨45,T,L,m⟩) (fun (_:Unit) s=>∃ T L,s=⟨45,T,L,m⟩∧look T 2=.int .i64 2) 0 1 (allS (vecP M)) M.vecs
  (fun N b s hN ⟨T,L,hs,hk,hL⟩=>by
   subst hs
   have h':¬(M.vecs.length:Int) < (M.vecs.length:Int):=by omega
   unfold a182_B1
   exact ⟨_,by simp only [KK,Nat.reduceEqDiff,Nat.reduceLT,hk,hL,h']; rfl,_,_,rfl⟩)
  (fun N i x b s hN hx ⟨T,L,hs,hk,hL⟩=>by
   subst hs
   unfold allS
   rcases vec_body m I M hm hl N i x (hv x (List.mem_of_getElem? hx)) hx T L hk hL (ev A N).2 with ⟨h1,T',L',e1,e2,e3⟩ | ⟨h1,T',L',e1,e2⟩
   ·rw [if_pos h1]
    exact ⟨_,e1,_,_,rfl,e2,e3⟩
   ·rw [if_neg (by rw [h1]; simp)]
    exact ⟨_,e1,_,_,rfl,e2⟩)
  N () ⟨45,T,L,m⟩ (by omega) ⟨T,L,rfl,hk,hL⟩ hq
 rw [fold_all] at h
 cases hall:allI (vecP M) M.vecs 0
 ·rw [hall] at h
  obtain ⟨s',e,T',L',rfl,h2⟩:=h
  exact ⟨T',L',.inr ⟨rfl,e,h2⟩⟩
 ·rw [hall] at h
  obtain ⟨s',e,T',L',rfl⟩:=h
  exact ⟨T',L',.inl ⟨rfl,e⟩⟩
theorem vecs_run (N:Nat) (m:Mem) (I:ImV) (M:Img) (hm:IM m I M) (hl:M.vecs.length≤1000) (hN:M.vecs.length+3≤N):run A N 182 [.agg (ic I M)] m=some (.int .i64 (if vecsP M=true then 0 else 2),m):=by
 obtain ⟨n,rfl⟩:∃ n,N=n+1:=⟨N - 1,by omega⟩
 have hP:=hm.pls
 have hc:=lcheck_run n m I.v M.vecs hm.v hl (by omega)
 rw [run_182]
 unfold vecsP
 cases d1:decide (checkV M.vecs=0)
 ·unfold fnEv a182
  simp only [KK,Nat.reduceEqDiff,Nat.reduceAdd,Nat.reduceLeDiff,Nat.reduceLT,hP,hc,d1]
 ·have hv:∀ x∈M.vecs,0≤x.fn:=fun x hx=>(okV_law ((checkV_law (of_decide_eq_true d1)).1 x hx)).2.2.2.2
  unfold fnEv a182
  simp only [KK,Nat.reduceEqDiff,Nat.reduceAdd,Nat.reduceLeDiff,Nat.reduceLT,hP,hc,d1]
  generalize hq:codeEv (run A n) (ev A n).2 a182_L1 _=q
  obtain ⟨T',L',⟨h1,rfl⟩ | ⟨h1,rfl,h2⟩⟩:=vecs_loop m I M hm hl hv n _ _ (by omega) (by simp only [keepT,List.map,look_set,look_cons,in_int,in_loc,Nat.reduceEqDiff,if_true,if_false,List.contains_cons,List.contains_nil,beq_self_eq_true,Bool.or_false,hP]) (by simp only [lookL_cons,if_true]) hq
  ·rw [h1]
   simp only [look_set,loc_int,Nat.reduceLT,if_true,if_false,Bool.false_eq_true]
  ·rw [h1]
   simp only [loc_int,if_false,Bool.false_eq_true,h2,Bool.false_eq_true]
def kinds:List AV:=[.str ⟨#[]⟩,.int .i64 0,.int .i64 0,.int .i64 0,.int .i64 0,.int .i64 0,.str ⟨#[104,97,108,116]⟩,.int .i64 0,.int .i64 0,.int .i64 0,.int .i64 0,.int .i64 0,.str ⟨#[112,117,115,104]⟩,.int .i64 2,.int .i64 0,.int .i64 0,.int .i64 0,.int .i64 1,.str ⟨#[112,111,112]⟩,.int .i64 0,.int .i64 0,.int .i64 0,.int .i64 1,.int .i64 0,.str ⟨#[108,100]⟩,.int .i64 1,.int .i64 0,.int .i64 0,.int .i64 0,.int .i64 1,.str ⟨#[115,116]⟩,.int .i64 1,.int .i64 3,.int .i64 0,.int .i64 1,.int .i64 0,.str ⟨#[108,100,120]⟩,.int .i64 1,.int .i64 4,.int .i64 0,.int .i64 1,.int .i64 1,.str ⟨#[115,116,120]⟩,.int .i64 1,.int .i64 4,.int .i64 3,.int .i64 2,.int .i64 0,.str ⟨#[108,100,108]⟩,.int .i64 1,.int .i64 0,.int .i64 0,.int .i64 0,.int .i64 1,.str ⟨#[115,116,108]⟩,.int .i64 1,.int .i64 3,.int .i64 0,.int .i64 1,.int .i64 0,.str ⟨#[105,110]⟩,.int .i64 1,.int .i64 0,.int .i64 0,.int .i64 0,.int .i64 1,.str ⟨#[111,117,116]⟩,.int .i64 1,.int .i64 0,.int .i64 0,.int .i64 1,.int .i64 0,.str ⟨#[98,105,110]⟩,.int .i64 7,.int .i64 0,.int .i64 0,.int .i64 2,.int .i64 1,.str ⟨#[117,110]⟩,.int .i64 8,.int .i64 0,.int .i64 0,.int .i64 1,.int .i64 1,.str ⟨#[99,117,116]⟩,.int .i64 3,.int .i64 0,.int .i64 0,.int .i64 1,.int .i64 1,.str ⟨#[106,109,112]⟩,.int .i64 1,.int .i64 0,.int .i64 0,.int .i64 0,.int .i64 0,.str ⟨#[106,122]⟩,.int .i64 1,.int .i64 0,.int .i64 0,.int .i64 1,.int .i64 0,.str ⟨#[99,97,108,108]⟩,.int .i64 1,.int .i64 0,.int .i64 0,.int .i64 0,.int .i64 1,.str ⟨#[114,101,116]⟩,.int .i64 0,.int .i64 0,.int .i64 0,.int .i64 1,.int .i64 0,.str ⟨#[101,110]⟩,.int .i64 5,.int .i64 0,.int .i64 0,.int .i64 0,.int .i64 0,.str ⟨#[100,105,115]⟩,.int .i64 5,.int .i64 0,.int .i64 0,.int .i64 0,.int .i64 0,.str ⟨#[108,118,108]⟩,.int .i64 6,.int .i64 0,.int .i64 0,.int .i64 0,.int .i64 0,.str ⟨#[112,116]⟩,.int .i64 0,.int .i64 0,.int .i64 0,.int .i64 0,.int .i64 0,.str ⟨#[98,101,103]⟩,.int .i64 1,.int .i64 0,.int .i64 0,.int .i64 0,.int .i64 0,.str ⟨#[101,110,100]⟩,.int .i64 1,.int .i64 0,.int .i64 0,.int .i64 0,.int .i64 0]
def signs:List AV:=[.str ⟨#[]⟩,.str ⟨#[43]⟩,.str ⟨#[45]⟩,.str ⟨#[42]⟩,.str ⟨#[47]⟩,.str ⟨#[37]⟩,.str ⟨#[115,47]⟩,.str ⟨#[115,37]⟩,.str ⟨#[38]⟩,.str ⟨#[124]⟩,.str ⟨#[94]⟩,.str ⟨#[60,60]⟩,.str ⟨#[62,62]⟩,.str ⟨#[115,62,62]⟩,.str ⟨#[61,61]⟩,.str ⟨#[33,61]⟩,.str ⟨#[60]⟩,.str ⟨#[60,61]⟩,.str ⟨#[115,60]⟩,.str ⟨#[115,60,61]⟩]
structure Tab (m:Mem):Prop where
 k:m.get 1=some (.cells [.slice 3 0 25 (some 25) 6] false)
 s:m.get 2=some (.cells signs false)
 t:m.get 3=some (.cells kinds false)
theorem right_spec (n:Nat) (x:Int) (m:Mem):run A (n+1) 163 [.int .i64 x] m=some (.bool (decide (1≤x)&&decide (x≤19)),m):=by
 rw [run_163]
 unfold fnEv a163
 by_cases h1:1≤x
 ·by_cases h2:x≤19
  ·simp only [codeEv,opsEv,oneEv,guardEv,opEv,St.opd,look_nil,look_cons,setT_nil,setT_cons,St.put,argsT,resEv,bin_ile,bin_ige,in_int,loc_bool,keepT,keepL,List.map,List.length,Option.map_some,Nat.reduceEqDiff,Nat.reduceAdd,Nat.reduceLT,if_true,if_false,Bool.and_true,beq_self_eq_true,Bool.false_eq_true,Nat.succ_ne_self,decide_true,h1,h2]
  ·simp only [codeEv,opsEv,oneEv,guardEv,opEv,St.opd,look_nil,look_cons,setT_nil,setT_cons,St.put,argsT,resEv,bin_ile,bin_ige,in_int,loc_bool,keepT,keepL,List.map,List.length,Option.map_some,Nat.reduceEqDiff,Nat.reduceAdd,Nat.reduceLT,if_true,if_false,Bool.and_false,beq_self_eq_true,Bool.false_eq_true,Nat.succ_ne_self,decide_true,decide_false,h1,h2]
 ·simp only [codeEv,opsEv,oneEv,guardEv,opEv,St.opd,look_nil,look_cons,setT_nil,setT_cons,St.put,argsT,resEv,bin_ige,in_int,loc_bool,keepT,keepL,List.map,List.length,Option.map_some,Nat.reduceEqDiff,Nat.reduceAdd,Nat.reduceLT,if_true,if_false,Bool.false_and,Bool.false_eq_true,Nat.succ_ne_self,decide_false,beq_ft,h1]
def isNo (s:ByteArray):Bool:=s.toList == (ByteArray.mk #[]).toList
theorem no_nil:isNo (ByteArray.mk #[])=true:=by decide +kernel
theorem signs_at:∀ j,j < 20→∃ s,signs[j]?=some (.str s)∧isNo s=decide (j=0):=by
 intro j hj
 have hall:(List.range 20).all (fun j=>match signs[j]? with | some (.str s)=>isNo s == decide (j=0) | _=>false)=true:=by decide +kernel
 have hv:=List.all_eq_true.1 hall j (List.mem_range.2 hj)
 split at hv
 ·rename_i s hs; exact ⟨s,hs,by simpa using hv⟩
 ·cases hv
theorem sign_ex (n:Nat) (x:Int) (m:Mem) (hT:Tab m):∃ s,run A (n+2) 159 [.int .i64 x] m=some (.str s,m)∧isNo s=!(decide (1≤x)&&decide (x≤19)):=by
 rw [run_159]
 have c:=right_spec n x
 unfold fnEv a159
 by_cases h:1≤x∧x≤19
 ·simp only [h.1,h.2,decide_true,Bool.and_true] at c ⊢
  obtain ⟨s,hs,hn⟩:=signs_at x.toNat (by omega)
  have hs':signs[0+x.toNat*1]?=some (.str s):=by rw [Nat.zero_add,Nat.mul_one]; exact hs
  have hb:0≤x∧x < ((20:Nat):Int):=by omega
  refine ⟨s,by simp only [codeEv,opsEv,oneEv,guardEv,opEv,St.opd,look_nil,look_cons,setT_nil,setT_cons,St.put,St.read,argsT,resEv,in_int,loc_int,loc_str,unEv,callWith,keepT,keepL,List.map,List.length,List.any,Option.map_some,Nat.reduceEqDiff,Nat.reduceAdd,Nat.reduceLT,if_true,if_false,Bool.or_false,Bool.not_true,Bool.false_eq_true,c,hb,hT.s,cells_one hs',and_self],?_⟩
  rw [hn]
  simp only [Bool.not_true,decide_eq_false_iff_not]
  omega
 ·have c':(decide (1≤x)&&decide (x≤19))=false:=by
   simp only [Bool.and_eq_false_iff,decide_eq_false_iff_not]
   omega
  rw [c'] at c ⊢
  exact ⟨ByteArray.mk #[],by simp only [codeEv,opsEv,oneEv,guardEv,opEv,St.opd,look_nil,look_cons,setT_nil,setT_cons,St.put,argsT,resEv,in_int,loc_int,loc_str,unEv,callWith,keepT,keepL,List.map,List.length,List.any,Option.map_some,Nat.reduceEqDiff,Nat.reduceAdd,Nat.reduceLT,if_true,if_false,Bool.or_false,Bool.not_false,Bool.false_eq_true,c],no_nil⟩
theorem name_ex (n:Nat) (x:Int) (m:Mem):∃ s,run A (n+1) 160 [.int .i64 x] m=some (.str s,m)∧isNo s=!(decide (1≤x)&&decide (x≤3)):=by
 rw [run_160]
 unfold fnEv a160
 by_cases h1:x=1
 ·exact ⟨_,by simp only [codeEv,opsEv,oneEv,guardEv,opEv,St.opd,look_nil,look_cons,setT_nil,setT_cons,St.put,argsT,resEv,bin_ieq,in_int,loc_str,keepT,keepL,List.map,List.length,Option.map_some,Nat.reduceEqDiff,Int.reduceEq,Nat.reduceAdd,Nat.reduceLT,if_true,if_false,Bool.false_eq_true,Nat.succ_ne_self,decide_true,decide_false,h1]; rfl,by subst h1; decide +kernel⟩
 ·by_cases h2:x=2
  ·exact ⟨_,by simp only [codeEv,opsEv,oneEv,guardEv,opEv,St.opd,look_nil,look_cons,setT_nil,setT_cons,St.put,argsT,resEv,bin_ieq,in_int,loc_str,keepT,keepL,List.map,List.length,Option.map_some,Nat.reduceEqDiff,Int.reduceEq,Nat.reduceAdd,Nat.reduceLT,if_true,if_false,Bool.false_eq_true,Nat.succ_ne_self,decide_true,decide_false,h2]; rfl,by subst h2; decide +kernel⟩
  ·by_cases h3:x=3
   ·exact ⟨_,by simp only [codeEv,opsEv,oneEv,guardEv,opEv,St.opd,look_nil,look_cons,setT_nil,setT_cons,St.put,argsT,resEv,bin_ieq,in_int,loc_str,keepT,keepL,List.map,List.length,Option.map_some,Nat.reduceEqDiff,Int.reduceEq,Nat.reduceAdd,Nat.reduceLT,if_true,if_false,Bool.false_eq_true,Nat.succ_ne_self,decide_true,decide_false,h3]; rfl,by subst h3; decide +kernel⟩
   ·refine ⟨_,by simp only [codeEv,opsEv,oneEv,guardEv,opEv,St.opd,look_nil,look_cons,setT_nil,setT_cons,St.put,argsT,resEv,bin_ieq,in_int,loc_str,keepT,keepL,List.map,List.length,Option.map_some,Nat.reduceEqDiff,Nat.reduceAdd,Nat.reduceLT,if_true,if_false,Bool.false_eq_true,Nat.succ_ne_self,decide_false,h1,h2,h3]; rfl,?_⟩
    have:(decide (1≤x)&&decide (x≤3))=false:=by
     simp only [Bool.and_eq_false_iff,decide_eq_false_iff_not]
     omega
    rw [this]; exact no_nil
def fitsI (w x:Int):Bool:=
 if w=0 then decide (x=0) else if w=1 then decide (0≤x)&&decide (x≤1048576) else if w=2 then decide (0≤x)&&decide (x≤4294967295)
 else if w=3 then decide (x=8)||(decide (x=16)||decide (x=32)) else if w=4 then decide (1≤x)&&decide (x≤1048576) else if w=5 then decide (0≤x)&&decide (x≤31)
 else if w=6 then decide (0≤x)&&decide (x≤15) else if w=7 then decide (1≤x)&&decide (x≤19) else decide (1≤x)&&decide (x≤3)
theorem fits_ex (n:Nat) (w x:Int) (m:Mem) (hT:Tab m):run A (n+3) 150 [.int .i64 w,.int .i64 x] m=some (.bool (fitsI w x),m):=by
 rw [run_150]
 obtain ⟨s1,c1,e1⟩:=sign_ex n x m hT
 obtain ⟨s2,c2,e2⟩:=name_ex (n+1) x m
 unfold isNo at e1 e2
 unfold fnEv a150 fitsI
 by_cases h0:w=0
 ·by_cases q:x=0
  ·have q:=eq_true q
   simp only [KK,Nat.reduceEqDiff,Int.reduceEq,Nat.reduceAdd,Nat.reduceLT,h0,q]
  ·simp only [KK,Nat.reduceEqDiff,Int.reduceEq,Nat.reduceAdd,Nat.reduceLT,h0,q]
 by_cases h1:w=1
 ·by_cases q1:0≤x
  ·by_cases q2:x≤1048576
   ·simp only [KK,Nat.reduceEqDiff,Int.reduceEq,Nat.reduceAdd,Nat.reduceLT,h1,q1,q2]
   ·simp only [KK,Nat.reduceEqDiff,Int.reduceEq,Nat.reduceAdd,Nat.reduceLT,h1,q1,q2]
  ·simp only [KK,Nat.reduceEqDiff,Int.reduceEq,Nat.reduceAdd,Nat.reduceLT,h1,q1]
 by_cases h2:w=2
 ·by_cases q1:0≤x
  ·by_cases q2:x≤4294967295
   ·simp only [KK,Nat.reduceEqDiff,Int.reduceEq,Nat.reduceAdd,Nat.reduceLT,h2,q1,q2]
   ·simp only [KK,Nat.reduceEqDiff,Int.reduceEq,Nat.reduceAdd,Nat.reduceLT,h2,q1,q2]
  ·simp only [KK,Nat.reduceEqDiff,Int.reduceEq,Nat.reduceAdd,Nat.reduceLT,h2,q1]
 by_cases h3:w=3
 ·by_cases q1:x=8
  ·have q1:=eq_true q1
   simp only [KK,Nat.reduceEqDiff,Int.reduceEq,Nat.reduceAdd,Nat.reduceLT,h3,q1]
  ·by_cases q2:x=16
   ·have q2:=eq_true q2
    simp only [KK,Nat.reduceEqDiff,Int.reduceEq,Nat.reduceAdd,Nat.reduceLT,h3,q1,q2]
   ·by_cases q3:x=32
    ·have q3:=eq_true q3
     simp only [KK,Nat.reduceEqDiff,Int.reduceEq,Nat.reduceAdd,Nat.reduceLT,h3,q1,q2,q3]
    ·simp only [KK,Nat.reduceEqDiff,Int.reduceEq,Nat.reduceAdd,Nat.reduceLT,h3,q1,q2,q3]
 by_cases h4:w=4
 ·by_cases q1:1≤x
  ·by_cases q2:x≤1048576
   ·simp only [KK,Nat.reduceEqDiff,Int.reduceEq,Nat.reduceAdd,Nat.reduceLT,h4,q1,q2]
   ·simp only [KK,Nat.reduceEqDiff,Int.reduceEq,Nat.reduceAdd,Nat.reduceLT,h4,q1,q2]
  ·simp only [KK,Nat.reduceEqDiff,Int.reduceEq,Nat.reduceAdd,Nat.reduceLT,h4,q1]
 by_cases h5:w=5
 ·by_cases q1:0≤x
  ·by_cases q2:x≤31
   ·simp only [KK,Nat.reduceEqDiff,Int.reduceEq,Nat.reduceAdd,Nat.reduceLT,h5,q1,q2]
   ·simp only [KK,Nat.reduceEqDiff,Int.reduceEq,Nat.reduceAdd,Nat.reduceLT,h5,q1,q2]
  ·simp only [KK,Nat.reduceEqDiff,Int.reduceEq,Nat.reduceAdd,Nat.reduceLT,h5,q1]
 by_cases h6:w=6
 ·by_cases q1:0≤x
  ·by_cases q2:x≤15
   ·simp only [KK,Nat.reduceEqDiff,Int.reduceEq,Nat.reduceAdd,Nat.reduceLT,h6,q1,q2]
   ·simp only [KK,Nat.reduceEqDiff,Int.reduceEq,Nat.reduceAdd,Nat.reduceLT,h6,q1,q2]
  ·simp only [KK,Nat.reduceEqDiff,Int.reduceEq,Nat.reduceAdd,Nat.reduceLT,h6,q1]
 by_cases h7:w=7
 ·simp only [KK,Nat.reduceEqDiff,Int.reduceEq,Nat.reduceAdd,Nat.reduceLT,h7,c1,e1,Bool.not_not]
 ·simp only [KK,Nat.reduceEqDiff,Nat.reduceAdd,Nat.reduceLT,h0,h1,h2,h3,h4,h5,h6,h7,c2,e2,Bool.not_not]
def kx (j i:Nat):Int:=match kinds[i*6+j]? with | some (.int _ v)=>v | _=>0
theorem kind_ex (op:Int) (h1:1≤op) (h2:op < 25):∃ s,cellsAt kinds (0+op.toNat*6) 6=some [.str s,.int .i64 (kx 1 op.toNat),.int .i64 (kx 2 op.toNat),.int .i64 (kx 3 op.toNat),.int .i64 (kx 4 op.toNat),.int .i64 (kx 5 op.toNat)]:=by
 have hall:(List.range 25).all (fun j=>match cellsAt kinds (0+j*6) 6 with
   | some [.str _,.int .i64 x,.int .i64 y,.int .i64 z,.int .i64 p,.int .i64 q]=>x == kx 1 j&&(y == kx 2 j&&(z == kx 3 j&&(p == kx 4 j&&q == kx 5 j)))
   | _=>false)=true:=by decide +kernel
 have hv:=List.all_eq_true.1 hall op.toNat (List.mem_range.2 (by omega))
 split at hv
 ·rename_i s x y z p q hs
  simp only [Bool.and_eq_true,beq_iff_eq] at hv
  obtain ⟨rfl,rfl,rfl,rfl,rfl⟩:=hv
  exact ⟨s,hs⟩
 ·cases hv
def insA (op a b c:Int):AV:=.agg [.int .i64 op,.int .i64 a,.int .i64 b,.int .i64 c]
def codeOk (op a b c:Int):Bool:=decide (1≤op)&&(decide (op < 25)&&(fitsI (kx 1 op.toNat) a&&(fitsI (kx 2 op.toNat) b&&fitsI (kx 3 op.toNat) c)))
theorem code_ex (n:Nat) (op a b c:Int) (m:Mem) (hT:Tab m):run A (n+4) 122 [insA op a b c] m=some (.int .i64 (if codeOk op a b c then 0 else 2),m):=by
 rw [run_122]
 unfold fnEv a122 insA codeOk
 by_cases h1:op < 1
 ·have h1':¬1≤op:=by omega
  simp only [KK,Nat.reduceEqDiff,Nat.reduceAdd,Nat.reduceLeDiff,Nat.reduceLT,h1,h1']
 ·have h1':1≤op:=by omega
  by_cases h2:25≤op
  ·have h2':((25:Nat):Int)≤op:=h2
   have h2'':¬op < 25:=by omega
   simp only [KK,Nat.reduceEqDiff,Nat.reduceAdd,Nat.reduceLeDiff,Nat.reduceLT,h1,h1',h2',h2'',hT.k]
  ·have h2':¬((25:Nat):Int)≤op:=h2
   have h2'':op < 25:=by omega
   have hb:0≤op∧op < ((25:Nat):Int):=by omega
   obtain ⟨s,hk⟩:=kind_ex op h1' h2''
   have f1:=fits_ex n (kx 1 op.toNat) a m hT
   have f2:=fits_ex n (kx 2 op.toNat) b m hT
   have f3:=fits_ex n (kx 3 op.toNat) c m hT
   generalize fitsI (kx 1 op.toNat) a=b1 at*
   generalize fitsI (kx 2 op.toNat) b=b2 at*
   generalize fitsI (kx 3 op.toNat) c=b3 at*
   cases b1
   ·simp only [KK,Nat.reduceEqDiff,Nat.reduceAdd,Nat.reduceLeDiff,Nat.reduceLT,h1,h1',h2',h2'',hb,hT.k,hT.t,hk,f1]
   ·cases b2
    ·simp only [KK,Nat.reduceEqDiff,Nat.reduceAdd,Nat.reduceLeDiff,Nat.reduceLT,h1,h1',h2',h2'',hb,hT.k,hT.t,hk,f1,f2]
    ·cases b3
     ·simp only [KK,Nat.reduceEqDiff,Nat.reduceAdd,Nat.reduceLeDiff,Nat.reduceLT,h1,h1',h2',h2'',hb,hT.k,hT.t,hk,f1,f2,f3]
     ·simp only [KK,Nat.reduceEqDiff,Nat.reduceAdd,Nat.reduceLeDiff,Nat.reduceLT,h1,h1',h2',h2'',hb,hT.k,hT.t,hk,f1,f2,f3]
theorem code_call (N:Nat) (hN:4≤N) (op a b c:Int) (m:Mem) (hT:Tab m):run A N 122 [.agg [.int .i64 op,.int .i64 a,.int .i64 b,.int .i64 c]] m=some (.int .i64 (if codeOk op a b c then 0 else 2),m):=by
 obtain ⟨n,rfl⟩:∃ n,N=n+4:=⟨N - 4,by omega⟩
 exact code_ex n op a b c m hT
def jumpsI (op a b c:Int):AV:=
 if codeOk op a b c then (if op=1∨op=18 then .tup [.int .i64 0,.bool false,.bool false] else if op=15 then .tup [.int .i64 a,.bool true,.bool false] else if op=16 then .tup [.int .i64 a,.bool true,.bool true] else .tup [.int .i64 0,.bool false,.bool true])
 else .tup [.int .i64 0,.bool false,.bool false]
theorem jumps_ex (N:Nat) (hN:5≤N) (op a b c:Int) (m:Mem) (hT:Tab m):run A N 119 [insA op a b c] m=some (jumpsI op a b c,m):=by
 obtain ⟨n,rfl⟩:∃ n,N=n+1:=⟨N - 1,by omega⟩
 rw [run_119]
 have hc:=code_call n (by omega) op a b c m hT
 unfold fnEv a119 insA jumpsI
 cases hk:codeOk op a b c
 ·rw [hk] at hc
  simp only [Bool.false_eq_true,if_false] at hc
  simp only [KK,Nat.reduceEqDiff,Int.reduceEq,Nat.reduceAdd,Nat.reduceLeDiff,Nat.reduceLT,hc]
 ·rw [hk] at hc
  simp only [if_true] at hc
  by_cases h1:op=1
  ·have h1:=eq_true h1
   simp only [KK,Nat.reduceEqDiff,Nat.reduceAdd,Nat.reduceLeDiff,Nat.reduceLT,hc,h1,true_or]
  ·by_cases h2:op=18
   ·have h2:=eq_true h2
    simp only [KK,Nat.reduceEqDiff,Nat.reduceAdd,Nat.reduceLeDiff,Nat.reduceLT,hc,h1,h2,or_true]
   ·by_cases h3:op=15
    ·have h3:=eq_true h3
     simp only [KK,Nat.reduceEqDiff,Nat.reduceAdd,Nat.reduceLeDiff,Nat.reduceLT,hc,h1,h2,h3,or_self]
    ·by_cases h4:op=16
     ·have h4:=eq_true h4
      simp only [KK,Nat.reduceEqDiff,Nat.reduceAdd,Nat.reduceLeDiff,Nat.reduceLT,hc,h1,h2,h3,h4,or_self]
     ·simp only [KK,Nat.reduceEqDiff,Nat.reduceAdd,Nat.reduceLeDiff,Nat.reduceLT,hc,h1,h2,h3,h4,or_self]
end AG
