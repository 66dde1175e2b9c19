/- What the functions that read images and paths compute, and the laws of that. -/
import Derived.Test.YtkmbepgofajfkaaDoorAgPf
namespace AG
open Go Go.Proofs.YtkmbepgofajfkaaDoor
set_option maxRecDepth 100000
set_option maxHeartbeats 4000000
def rvecP (M:Img) (_:Nat) (x:V):Bool:=plainF M x.fn&&!decide (x.fn=M.main)
def rcellP (M:Img) (l:List Int) (k:Nat) (x:Int):Bool:=!decide (x < 0)&&(!decide ((M.init.length:Int)≤x)&&!(decide (0 < k)&&decide (x≤(l[k - 1]?).getD 0)))
def ratomP (M:Img) (_:Nat) (l:List Int):Bool:=allI (rcellP M l) l 0
def rbodyP (M:Img) (f:Nat) (x:FF):Bool:=rfuncP M f x&&bodyP M f x
def rmay1 (M:Img):Bool:=!decide ((M.funcs.length:Int)=0)&&(!decide (M.stack < 1)&&(!decide (65536 < M.stack)&&(decide (fromP M 0=0)&&(plainF M M.main&&decide (checkV M.vecs=0)))))
def rmayP (M:Img):Bool:=rmay1 M&&(allI (rvecP M) M.vecs 0&&(allI (ratomP M) M.atoms 0&&allI (rbodyP M) M.funcs 0))
theorem rvecs_loop (m:Mem) (I:ImV) (M:Img) (hm:IM m I M) (hl:M.vecs.length≤1000) (N:Nat) (T:List (Nat×AV)) (L:List (Nat×List AV)) (hN:M.vecs.length+2≤N) (hk:keepT [1,3] [1] T=[(1,.loc 1 0),(3,.int .i64 0)]) (hL:lookL L 1=some (ic I M)) {q:Option (Ex×St)} (hq:codeEv (run A N) (ev A N).2 a76_L4 ⟨144,T,L,m⟩=q):
  ∃ T' L',(allI (rvecP M) M.vecs 0=true∧q=some (.exit 0,⟨144,T',L',m⟩)∧keepT [1] [1] T'=[(1,.loc 1 0)]∧lookL L' 1=some (ic I M))∨(allI (rvecP M) M.vecs 0=false∧q=some (.ret,⟨144,T',L',m⟩)∧look T' 2=.bool false):=by
 have hP:=hm.pls
 have h:=scan0 (A:=A) a76_L4 a76_B4 a76_L4_step (fun i (_:Unit) s=>∃ T L,s=⟨144,T,L,m⟩∧keepT [1,3] [1] T=[(1,.loc 1 0),(3,.int .i64 (i:Int))]∧lookL L 1=some (ic I M)) (fun _ s=>∃ T' L',s=⟨144,T',L',m⟩∧keepT [1] [1] T'=[(1,.loc 1 0)]∧lookL L' 1=some (ic I M)) (fun (_:Unit) s=>∃ T L,s=⟨144,T,L,m⟩∧look T 2=.bool false) 0 2 (allS (rvecP M)) M.vecs
  (fun N b s hN ⟨T,L,hs,hk,hL⟩=>by
   subst hs
   have h':¬(M.vecs.length:Int) < (M.vecs.length:Int):=by omega
   unfold a76_B4
   exact ⟨_,by simp only [KK,Nat.reduceEqDiff,Nat.reduceAdd,Nat.reduceLeDiff,Nat.reduceLT,hk,hL,h',hP]; rfl,_,_,rfl,by simp only [keepT,List.map,look_set,look_cons,in_loc,Nat.reduceEqDiff,if_true,if_false,List.contains_cons,List.contains_nil,beq_self_eq_true,Bool.or_false],by simp only [lookL_cons,if_true]⟩)
  (fun N i x b s hN hx ⟨T,L,hs,hk,hL⟩=>by
   subst hs
   have hlt:=(List.getElem?_eq_some_iff.1 hx).1
   have h':(i:Int) < (M.vecs.length:Int):=by omega
   obtain ⟨b,o,cs,ow,e1,e2,e3⟩:=hm.v.vv hx
   have f2:=cells_sub e3 (k:=2) rfl
   have a1:=add_i i (by omega)
   have hp:=plain_run N (by omega) m I M hm x.fn
   unfold allS rvecP
   cases d1:plainF M x.fn
   ·rw [d1] at hp
    rw [if_neg (by simp)]
    dsimp only
    unfold a76_B4
    exact ⟨_,by simp only [KK,Nat.reduceEqDiff,Nat.reduceAdd,Nat.reduceLeDiff,Nat.reduceLT,AOp.kd,kd_rm,logOk_nil',a76_R2,hk,hL,h',hP,e1,e2,f2,hp]; rfl,_,_,rfl,by simp only [look_set,if_true]⟩
   ·rw [d1] at hp
    cases d2:decide (x.fn=M.main)
    ·rw [if_pos (by rfl)]
     dsimp only
     unfold a76_B4
     exact ⟨_,by simp only [KK,Nat.reduceEqDiff,Nat.reduceAdd,Nat.reduceLeDiff,Nat.reduceLT,AOp.kd,kd_rm,logOk_nil',a76_R2,hk,hL,h',hP,e1,e2,f2,hp,d2,a1]; rfl,_,_,rfl,by simp only [keepT,List.map,look_set,look_cons,in_int,in_loc,Nat.reduceEqDiff,if_true,if_false,List.contains_cons,List.contains_nil,beq_self_eq_true,Bool.or_false],by simp only [lookL_cons,if_true]⟩
    ·rw [if_neg (by simp)]
     dsimp only
     unfold a76_B4
     exact ⟨_,by simp only [KK,Nat.reduceEqDiff,Nat.reduceAdd,Nat.reduceLeDiff,Nat.reduceLT,AOp.kd,kd_rm,logOk_nil',a76_R2,hk,hL,h',hP,e1,e2,f2,hp,d2]; rfl,_,_,rfl,by simp only [look_set,if_true]⟩)
  N () ⟨144,T,L,m⟩ (by omega) ⟨T,L,rfl,hk,hL⟩ hq
 rw [fold_all] at h
 cases hall:allI (rvecP M) M.vecs 0
 ·rw [hall] at h
  obtain ⟨s',e,T',L',rfl,h2⟩:=h
  exact ⟨T',L',.inr ⟨rfl,e,h2⟩⟩
 ·rw [hall] at h
  obtain ⟨s',e,T',L',rfl,h2,h3⟩:=h
  exact ⟨T',L',.inl ⟨rfl,e,h2,h3⟩⟩
theorem rcells_loop (m:Mem) (I:ImV) (M:Img) (hm:IM m I M) (i:Nat) (l:List Int) (hx:M.atoms[i]?=some l) (hl:l.length≤100000) (N:Nat) (T:List (Nat×AV)) (L:List (Nat×List AV)) (hN:l.length+1≤N) (hk:keepT [1,4,5] [1] T=[(1,.loc 1 0),(4,.int .i64 (i:Int)),(5,.int .i64 0)]) (hL:lookL L 1=some (ic I M)) {q:Option (Ex×St)} (hq:codeEv (run A N) (ev A N).2 a76_L2 ⟨144,T,L,m⟩=q):
  ∃ T' L',(ratomP M i l=true∧q=some (.exit 4,⟨144,T',L',m⟩)∧keepT [1,4] [1] T'=[(1,.loc 1 0),(4,.int .i64 (i:Int))]∧lookL L' 1=some (ic I M))∨(ratomP M i l=false∧q=some (.ret,⟨144,T',L',m⟩)∧look T' 2=.bool false):=by
 have hP:=hm.pls
 obtain ⟨b,o,cs,ow,w,e1,e2,e3,hw⟩:=hm.a.at hx
 obtain ⟨w1,w2,w3,w4⟩:=hw.plain
 have lw:=hw.lenR
 have h:=scan0 (A:=A) a76_L2 a76_B2 a76_L2_step (fun k (_:Unit) s=>∃ T L,s=⟨144,T,L,m⟩∧keepT [1,4,5] [1] T=[(1,.loc 1 0),(4,.int .i64 (i:Int)),(5,.int .i64 (k:Int))]∧lookL L 1=some (ic I M)) (fun _ s=>∃ T' L',s=⟨144,T',L',m⟩∧keepT [1,4] [1] T'=[(1,.loc 1 0),(4,.int .i64 (i:Int))]∧lookL L' 1=some (ic I M)) (fun (_:Unit) s=>∃ T L,s=⟨144,T,L,m⟩∧look T 2=.bool false) 4 1 (allS (rcellP M l)) l
  (fun N b s hN ⟨T,L,hs,hk,hL⟩=>by
   subst hs
   have h':¬(l.length:Int) < (l.length:Int):=by omega
   unfold a76_B2
   exact ⟨_,by simp only [KK,Nat.reduceEqDiff,Nat.reduceAdd,Nat.reduceLeDiff,Nat.reduceLT,a76_R3,hk,hL,h',e1,e2,e3,lw]; rfl,_,_,rfl,by simp only [keepT,List.map,look_set,look_cons,in_int,in_loc,Nat.reduceEqDiff,if_true,if_false,List.contains_cons,List.contains_nil,beq_self_eq_true,Bool.or_false],by simp only [lookL_cons,if_true]⟩)
  (fun N k x b s hN hk0 ⟨T,L,hs,hk,hL⟩=>by
   subst hs
   have hlt:=(List.getElem?_eq_some_iff.1 hk0).1
   have h':(k:Int) < (l.length:Int):=by omega
   obtain ⟨b1,o1,cs1,ow1,g1,g2,g3⟩:=hw.i1 hk0
   have a1:=add_i k (by omega)
   unfold allS
   cases d1:decide (x < 0)
   rotate_left
   ·rw [if_neg (by unfold rcellP; rw [d1]; simp)]
    dsimp only
    unfold a76_B2
    exact ⟨_,by simp only [KK,Nat.reduceEqDiff,Nat.reduceAdd,Nat.reduceLeDiff,Nat.reduceLT,AOp.kd,kd_rm,logOk_nil',a76_R3,a76_R4,hk,hL,h',e1,e2,e3,lw,g1,g2,g3,d1]; rfl,_,_,rfl,by simp only [look_set,if_true]⟩
   cases d2:decide ((M.init.length:Int)≤x)
   rotate_left
   ·rw [if_neg (by unfold rcellP; rw [d1,d2]; simp)]
    dsimp only
    unfold a76_B2
    exact ⟨_,by simp only [KK,Nat.reduceEqDiff,Nat.reduceAdd,Nat.reduceLeDiff,Nat.reduceLT,AOp.kd,kd_rm,logOk_nil',a76_R3,a76_R4,hk,hL,h',hP,e1,e2,e3,lw,g1,g2,g3,d1,d2]; rfl,_,_,rfl,by simp only [look_set,if_true]⟩
   by_cases k0:k=0
   ·subst k0
    simp only [Int.ofNat_zero] at h' a1 hk g1
    rw [if_pos (by unfold rcellP; rw [d1,d2]; simp)]
    dsimp only
    unfold a76_B2
    exact ⟨_,by simp only [KK,Nat.reduceEqDiff,Nat.reduceAdd,Nat.reduceLeDiff,Nat.reduceLT,AOp.kd,kd_rm,logOk_nil',a76_R3,a76_R4,hk,hL,h',hP,e1,e2,e3,lw,g1,g2,g3,d1,d2,a1,Int.lt_irrefl]; rfl,_,_,rfl,by simp only [keepT,List.map,look_set,look_cons,in_int,in_loc,Nat.reduceEqDiff,if_true,if_false,Nat.reduceAdd,List.contains_cons,List.contains_nil,beq_self_eq_true,Bool.or_false],by simp only [lookL_cons,if_true]⟩
   ·obtain ⟨y,hy⟩:∃ y,l[k - 1]?=some y:=⟨_,List.getElem?_eq_getElem (by omega)⟩
    obtain ⟨b2,o2,cs2,ow2,f1,f2,f3⟩:=hw.i1 hy
    have hkp:(0:Int) < (k:Int):=by omega
    have hkn:decide (0 < k)=true:=decide_eq_true (by omega)
    have hsb:binEv .sub (.int .i64 (k:Int)) (.int .i64 1)=some (.int .i64 ((k - 1:Nat):Int)):=by
     have e:((k - 1:Nat):Int)=(k:Int) - 1:=by omega
     rw [e]
     simp only [binEv,if_true,intBin,IntKind.wrap,IntKind.bits]
     simp [IntKind.signed]
     omega
    have hc:rcellP M l k x=!decide (x≤y):=by unfold rcellP; rw [d1,d2,hy,hkn]; rfl
    rw [hc]
    cases d3:decide (x≤y)
    ·rw [if_pos (by rfl)]
     dsimp only
     unfold a76_B2
     exact ⟨_,by simp only [KK,Nat.reduceEqDiff,Nat.reduceAdd,Nat.reduceLeDiff,Nat.reduceLT,AOp.kd,kd_rm,logOk_nil',a76_R3,a76_R4,hk,hL,h',hP,e1,e2,e3,lw,g1,g2,g3,d1,d2,a1,hkp,hsb,f1,f2,f3,d3]; rfl,_,_,rfl,by simp only [keepT,List.map,look_set,look_cons,in_int,in_loc,Nat.reduceEqDiff,if_true,if_false,List.contains_cons,List.contains_nil,beq_self_eq_true,Bool.or_false],by simp only [lookL_cons,if_true]⟩
    ·rw [if_neg (by simp)]
     dsimp only
     unfold a76_B2
     exact ⟨_,by simp only [KK,Nat.reduceEqDiff,Nat.reduceAdd,Nat.reduceLeDiff,Nat.reduceLT,AOp.kd,kd_rm,logOk_nil',a76_R3,a76_R4,hk,hL,h',hP,e1,e2,e3,lw,g1,g2,g3,d1,d2,hkp,hsb,f1,f2,f3,d3]; rfl,_,_,rfl,by simp only [look_set,if_true]⟩)
  N () ⟨144,T,L,m⟩ (by omega) ⟨T,L,rfl,hk,hL⟩ hq
 rw [fold_all] at h
 unfold ratomP
 cases hall:allI (rcellP M l) l 0
 ·rw [hall] at h
  obtain ⟨s',e,T',L',rfl,h2⟩:=h
  exact ⟨T',L',.inr ⟨rfl,e,h2⟩⟩
 ·rw [hall] at h
  obtain ⟨s',e,T',L',rfl,h2,h3⟩:=h
  exact ⟨T',L',.inl ⟨rfl,e,h2,h3⟩⟩
theorem ratoms_loop (m:Mem) (I:ImV) (M:Img) (hm:IM m I M) (hl:M.atoms.length≤1000) (hll:∀ l∈M.atoms,l.length≤4096) (N:Nat) (T:List (Nat×AV)) (L:List (Nat×List AV)) (hN:M.atoms.length+4100≤N) (hk:keepT [1,4] [1] T=[(1,.loc 1 0),(4,.int .i64 0)]) (hL:lookL L 1=some (ic I M)) {q:Option (Ex×St)} (hq:codeEv (run A N) (ev A N).2 a76_L3 ⟨144,T,L,m⟩=q):
  ∃ T' L',(allI (ratomP M) M.atoms 0=true∧q=some (.exit 2,⟨144,T',L',m⟩)∧keepT [1] [1] T'=[(1,.loc 1 0)]∧lookL L' 1=some (ic I M))∨(allI (ratomP M) M.atoms 0=false∧q=some (.ret,⟨144,T',L',m⟩)∧look T' 2=.bool false):=by
 have hP:=hm.pls
 have h:=scan0 (A:=A) a76_L3 a76_B3 a76_L3_step (fun i (_:Unit) s=>∃ T L,s=⟨144,T,L,m⟩∧keepT [1,4] [1] T=[(1,.loc 1 0),(4,.int .i64 (i:Int))]∧lookL L 1=some (ic I M)) (fun _ s=>∃ T' L',s=⟨144,T',L',m⟩∧keepT [1] [1] T'=[(1,.loc 1 0)]∧lookL L' 1=some (ic I M)) (fun (_:Unit) s=>∃ T L,s=⟨144,T,L,m⟩∧look T 2=.bool false) 2 4100 (allS (ratomP M)) M.atoms
  (fun N b s hN ⟨T,L,hs,hk,hL⟩=>by
   subst hs
   have h':¬(M.atoms.length:Int) < (M.atoms.length:Int):=by omega
   unfold a76_B3
   exact ⟨_,by simp only [KK,Nat.reduceEqDiff,Nat.reduceAdd,Nat.reduceLeDiff,Nat.reduceLT,hk,hL,h',hP]; rfl,_,_,rfl,by simp only [keepT,List.map,look_set,look_cons,in_loc,Nat.reduceEqDiff,if_true,if_false,List.contains_cons,List.contains_nil,beq_self_eq_true,Bool.or_false],by simp only [lookL_cons,if_true]⟩)
  (fun N i l b s hN hx ⟨T,L,hs,hk,hL⟩=>by
   subst hs
   have hlt:=(List.getElem?_eq_some_iff.1 hx).1
   have h':(i:Int) < (M.atoms.length:Int):=by omega
   have a1:=add_i i (by omega)
   have hl4:=hll l (List.mem_of_getElem? hx)
   unfold allS
   unfold a76_B3
   simp only [KK,Nat.reduceEqDiff,Nat.reduceAdd,Nat.reduceLeDiff,Nat.reduceLT,hk,hL,h',hP]
   generalize hq:codeEv (run A N) (ev A N).2 a76_L2 _=q
   obtain ⟨T',L',⟨h1,rfl,h2,h3⟩ | ⟨h1,rfl,h2⟩⟩:=rcells_loop m I M hm i l hx (by omega) N _ _ (by omega) (by simp only [keepT,List.map,look_set,look_cons,in_int,in_loc,Nat.reduceEqDiff,if_true,if_false,List.contains_cons,List.contains_nil,beq_self_eq_true,Bool.or_false]) (by simp only [lookL_cons,if_true]) hq
   ·rw [if_pos h1]
    exact ⟨_,by simp only [look_set,look_nil,look_cons,Option.map_some,Nat.reduceEqDiff,Nat.reduceLT,if_true,if_false,h2,h3,a1]; rfl,_,_,rfl,by simp only [keepT,List.map,look_set,look_cons,in_int,in_loc,Nat.reduceEqDiff,if_true,if_false,List.contains_cons,List.contains_nil,beq_self_eq_true,Bool.or_false],by simp only [lookL_cons,if_true]⟩
   ·rw [if_neg (by rw [h1]; simp)]
    exact ⟨_,rfl,_,_,rfl,h2⟩)
  N () ⟨144,T,L,m⟩ (by omega) ⟨T,L,rfl,hk,hL⟩ hq
 rw [fold_all] at h
 cases hall:allI (ratomP M) M.atoms 0
 ·rw [hall] at h
  obtain ⟨s',e,T',L',rfl,h2⟩:=h
  exact ⟨T',L',.inr ⟨rfl,e,h2⟩⟩
 ·rw [hall] at h
  obtain ⟨s',e,T',L',rfl,h2,h3⟩:=h
  exact ⟨T',L',.inl ⟨rfl,e,h2,h3⟩⟩
theorem rbodies_loop (m:Mem) (I:ImV) (M:Img) (hm:IM m I M) (hlf:M.funcs.length≤1000) (hl:M.code.length≤100000) (hmn:m.n+3*M.code.length*M.funcs.length≤2 ^ depth) (N:Nat) (T:List (Nat×AV)) (L:List (Nat×List AV)) (hN:M.funcs.length+M.code.length+6≤N) (hk:keepT [1,6] [1] T=[(1,.loc 1 0),(6,.int .i64 0)]) (hL:lookL L 1=some (ic I M)) {q:Option (Ex×St)} (hq:codeEv (run A N) (ev A N).2 a76_L1 ⟨144,T,L,m⟩=q):
  ∃ T' L' m',Gr m m' (3*M.code.length*M.funcs.length)∧((allI (rbodyP M) M.funcs 0=true∧q=some (.exit 6,⟨144,T',L',m'⟩))∨(allI (rbodyP M) M.funcs 0=false∧q=some (.ret,⟨144,T',L',m'⟩)∧look T' 2=.bool false)):=by
 have h:=scan0 (A:=A) a76_L1 a76_B1 a76_L1_step (fun i (_:Unit) s=>∃ T L m',s=⟨144,T,L,m'⟩∧keepT [1,6] [1] T=[(1,.loc 1 0),(6,.int .i64 (i:Int))]∧lookL L 1=some (ic I M)∧Gr m m' (3*M.code.length*i)) (fun _ s=>∃ T' L' m',s=⟨144,T',L',m'⟩∧Gr m m' (3*M.code.length*M.funcs.length)) (fun (_:Unit) s=>∃ T L m',s=⟨144,T,L,m'⟩∧look T 2=.bool false∧Gr m m' (3*M.code.length*M.funcs.length)) 6 (M.code.length+6) (allS (rbodyP M)) M.funcs
  (fun N b s hN ⟨T,L,m',hs,hk,hL,hg⟩=>by
   subst hs
   have hP:=hm.pls
   have h':¬(M.funcs.length:Int) < (M.funcs.length:Int):=by omega
   unfold a76_B1
   exact ⟨_,by simp only [KK,Nat.reduceEqDiff,Nat.reduceAdd,Nat.reduceLeDiff,Nat.reduceLT,hk,hL,h',hP]; rfl,_,_,_,rfl,hg⟩)
  (fun N i x b s hN hx ⟨T,L,m1,hs,hk,hL,hg⟩=>by
   subst hs
   have hP:=hm.pls
   have hlt:=(List.getElem?_eq_some_iff.1 hx).1
   have h':(i:Int) < (M.funcs.length:Int):=by omega
   have a1:=add_i i (by omega)
   have hmul:3*M.code.length*(i+1)≤3*M.code.length*M.funcs.length:=Nat.mul_le_mul_left _ (by omega)
   rw [Nat.mul_succ] at hmul
   have hn:=hg.2
   obtain ⟨m2,hb,hg2⟩:=rbody_run N m1 I M (hm.ext hg.1) i x hx (by omega) hl (by omega) (by omega)
   have hgg:=hg.trans hg2
   have hb':run A N 111 [.agg (ic I M),.int .i64 (i:Int)] m1=some (.bool (rbodyP M i x),m2):=hb
   unfold allS
   unfold a76_B1
   cases hv:rbodyP M i x
   ·rw [hv] at hb'
    rw [if_neg (by simp)]
    exact ⟨_,by simp only [KK,Nat.reduceEqDiff,Nat.reduceAdd,Nat.reduceLeDiff,Nat.reduceLT,hk,hL,h',hP,hb']; rfl,_,_,_,rfl,by simp only [look_set,if_true],hgg.le (by omega)⟩
   ·rw [hv] at hb'
    rw [if_pos rfl]
    exact ⟨_,by simp only [KK,Nat.reduceEqDiff,Nat.reduceAdd,Nat.reduceLeDiff,Nat.reduceLT,hk,hL,h',hP,hb',a1]; rfl,_,_,_,rfl,by simp only [keepT,List.map,look_set,look_cons,in_int,in_loc,Nat.reduceEqDiff,if_true,if_false,List.contains_cons,List.contains_nil,beq_self_eq_true,Bool.or_false],by simp only [lookL_cons,if_true],hgg.le (by rw [Nat.mul_succ]; omega)⟩)
  N () ⟨144,T,L,m⟩ (by omega) ⟨T,L,m,rfl,hk,hL,(Gr.refl m).le (by omega)⟩ hq
 rw [fold_all] at h
 cases hall:allI (rbodyP M) M.funcs 0
 ·rw [hall] at h
  obtain ⟨s',e,T',L',m',rfl,h2,h3⟩:=h
  exact ⟨T',L',m',h3,.inr ⟨rfl,e,h2⟩⟩
 ·rw [hall] at h
  obtain ⟨s',e,T',L',m',rfl,h2⟩:=h
  exact ⟨T',L',m',h2,.inl ⟨rfl,e⟩⟩
theorem rmay_run (N:Nat) (m:Mem) (I:ImV) (M:Img) (hm:IM m I M) (hlf:M.funcs.length≤1000) (hl:M.code.length≤100000) (hlv:M.vecs.length≤1000) (hla:M.atoms.length≤1000) (hll:∀ l∈M.atoms,l.length≤4096) (hmn:m.n+3*M.code.length*M.funcs.length≤2 ^ depth) (hN:M.funcs.length+M.code.length+M.atoms.length+2*M.vecs.length+4200≤N):∃ m',run A N 76 [.agg (ic I M)] m=some (.bool (rmayP M),m')∧Gr m m' (3*M.code.length*M.funcs.length):=by
 obtain ⟨n,rfl⟩:∃ n,N=n+1:=⟨N - 1,by omega⟩
 have hP:=hm.pls
 have hp:=plain_run n (by omega) m I M hm M.main
 have hc:=r2check_run n m I.v M.vecs hm.v hlv (by omega)
 rw [run_76]
 unfold fnEv a76 rmayP rmay1
 cases d0:decide ((M.funcs.length:Int)=0)
 rotate_left
 ·refine ⟨m,?_,(Gr.refl m).le (by omega)⟩
  simp only [KK,Nat.reduceEqDiff,Nat.reduceAdd,Nat.reduceLeDiff,Nat.reduceLT,a76_R1,hP,d0]
 have q0:=of_decide_eq_false d0
 obtain ⟨x,hx⟩:∃ x,M.funcs[0]?=some x:=⟨_,List.getElem?_eq_getElem (by omega)⟩
 obtain ⟨b,o,cs,ow,e1,e2,_,e3,_,_⟩:=hm.f.ff hx
 have hfr:fromP M 0=x.entry:=by unfold fromP; rw [hx]; rfl
 rw [hfr]
 have e1':=fun s=>e1 s
 rw [Int.ofNat_zero] at e1'
 cases d1:decide (M.stack < 1)
 rotate_left
 ·refine ⟨m,?_,(Gr.refl m).le (by omega)⟩
  simp only [KK,Nat.reduceEqDiff,Nat.reduceAdd,Nat.reduceLeDiff,Nat.reduceLT,a76_R1,hP,d0,d1]
 cases d2:decide (65536 < M.stack)
 rotate_left
 ·refine ⟨m,?_,(Gr.refl m).le (by omega)⟩
  simp only [KK,Nat.reduceEqDiff,Nat.reduceAdd,Nat.reduceLeDiff,Nat.reduceLT,a76_R1,hP,d0,d1,d2]
 cases d3:decide (x.entry=0)
 ·refine ⟨m,?_,(Gr.refl m).le (by omega)⟩
  simp only [KK,Nat.reduceEqDiff,Nat.reduceAdd,Nat.reduceLeDiff,Nat.reduceLT,a76_R1,hP,d0,e1',e2,e3,d1,d2,d3]
 cases d4:plainF M M.main
 ·rw [d4] at hp
  refine ⟨m,?_,(Gr.refl m).le (by omega)⟩
  simp only [KK,Nat.reduceEqDiff,Nat.reduceAdd,Nat.reduceLeDiff,Nat.reduceLT,a76_R1,hP,d0,e1',e2,e3,d1,d2,d3,hp]
 rw [d4] at hp
 cases d5:decide (checkV M.vecs=0)
 ·refine ⟨m,?_,(Gr.refl m).le (by omega)⟩
  simp only [KK,Nat.reduceEqDiff,Nat.reduceAdd,Nat.reduceLeDiff,Nat.reduceLT,a76_R1,hP,d0,e1',e2,e3,d1,d2,d3,hp,hc,d5]
 simp only [KK,Nat.reduceEqDiff,Nat.reduceAdd,Nat.reduceLeDiff,Nat.reduceLT,a76_R1,hP,d0,e1',e2,e3,d1,d2,d3,hp,hc,d5]
 generalize hq:codeEv (run A n) (ev A n).2 a76_L4 _=q
 obtain ⟨T1,L1,⟨h1,rfl,h2,h3⟩ | ⟨h1,rfl,h2⟩⟩:=rvecs_loop m I M hm hlv n _ _ (by omega) (by simp only [keepT,List.map,look_set,look_cons,in_int,in_loc,Nat.reduceEqDiff,if_true,if_false,List.contains_cons,List.contains_nil,beq_self_eq_true,Bool.or_false]) (by simp only [lookL_cons,if_true]) hq
 rotate_left
 ·exact ⟨m,by simp only [loc_bool,if_false,Bool.false_and,Bool.false_eq_true,h1,h2],(Gr.refl m).le (by omega)⟩
 simp only [Nat.reduceLT,if_true,Bool.true_and,h1,h2,h3]
 generalize hq2:codeEv (run A n) (ev A n).2 a76_L3 _=q2
 obtain ⟨T2,L2,⟨g1,rfl,g2,g3⟩ | ⟨g1,rfl,g2⟩⟩:=ratoms_loop m I M hm hla hll n _ _ (by omega) (by simp only [keepT,List.map,look_set,look_cons,in_int,in_loc,Nat.reduceEqDiff,if_true,if_false,List.contains_cons,List.contains_nil,beq_self_eq_true,Bool.or_false]) (by simp only [lookL_cons,if_true]) hq2
 rotate_left
 ·exact ⟨m,by simp only [loc_bool,if_false,Bool.false_and,Bool.false_eq_true,g1,g2],(Gr.refl m).le (by omega)⟩
 simp only [Nat.reduceLT,if_true,Bool.true_and,g1,g2,g3]
 generalize hq3:codeEv (run A n) (ev A n).2 a76_L1 _=q3
 obtain ⟨T3,L3,m3,hg,⟨k1,rfl⟩ | ⟨k1,rfl,k2⟩⟩:=rbodies_loop m I M hm hlf hl hmn n _ _ (by omega) (by simp only [keepT,List.map,look_set,look_cons,in_int,in_loc,Nat.reduceEqDiff,if_true,if_false,List.contains_cons,List.contains_nil,beq_self_eq_true,Bool.or_false]) (by simp only [lookL_cons,if_true]) hq3
 ·exact ⟨m3,by simp only [look_set,loc_bool,Nat.reduceLT,if_true,if_false,Bool.false_eq_true,k1],hg⟩
 ·exact ⟨m3,by simp only [loc_bool,if_false,Bool.false_eq_true,k1,k2],hg⟩
def isCall (g:Int) (x:II):Bool:=decide (x.op=17)&&decide (x.a=g)
def hasS (g:Int) (_:Nat) (x:II) (b:Bool):Stp Bool Unit:=.go (b||isCall g x)
theorem fold_has (g:Int):∀ (l:List II) (i:Nat) (b:Bool),foldS (hasS g) l i b=.inl (b||l.any (isCall g))
 | [],i,b=>by simp [foldS]
 | x::r,i,b=>by
  simp only [foldS,hasS]
  rw [fold_has g r (i+1) _,List.any_cons,Bool.or_assoc]
theorem rhas_loop (m1:Mem) (I:ImV) (M:Img) (hm:IM m1 I M) (v:AV) (v1:∀ ls,AV.locIn ls v=true) (_v2:v.isLoc=false) (fr te:Nat) (hl:M.code.length≤100000) (h1:fr≤te) (h2:te≤M.code.length) (g:Int) (N:Nat) (T:List (Nat×AV)) (L:List (Nat×List AV)) (hN:M.code.length+1≤N) (hk:keepT [2,5,6,7,8,9,10] [2] T=[(2,.loc 2 0),(5,v),(6,.int .i64 (fr:Int)),(7,.int .i64 (te:Int)),(8,.int .i64 g),(9,.bool false),(10,.int .i64 (fr:Int))]) (hL:lookL L 2=some (ic I M)) {q:Option (Ex×St)} (hq:codeEv (run A N) (ev A N).2 a112_L1 ⟨56,T,L,m1⟩=q):
  ∃ T' L',q=some (.exit 2,⟨56,T',L',m1⟩)∧keepT [2,5,6,7,8,9] [2] T'=[(2,.loc 2 0),(5,v),(6,.int .i64 (fr:Int)),(7,.int .i64 (te:Int)),(8,.int .i64 g),(9,.bool (((M.code.drop fr).take (te - fr)).any (isCall g)))]∧lookL L' 2=some (ic I M):=by
 have hP:=hm.pls
 have hll:((M.code.drop fr).take (te - fr)).length=te - fr:=by rw [List.length_take,List.length_drop]; omega
 have h:=scan0 (A:=A) a112_L1 a112_B1 a112_L1_step (fun i (b:Bool) s=>∃ T L,s=⟨56,T,L,m1⟩∧keepT [2,5,6,7,8,9,10] [2] T=[(2,.loc 2 0),(5,v),(6,.int .i64 (fr:Int)),(7,.int .i64 (te:Int)),(8,.int .i64 g),(9,.bool b),(10,.int .i64 ((fr+i:Nat):Int))]∧lookL L 2=some (ic I M)) (fun b s=>∃ T L,s=⟨56,T,L,m1⟩∧keepT [2,5,6,7,8,9] [2] T=[(2,.loc 2 0),(5,v),(6,.int .i64 (fr:Int)),(7,.int .i64 (te:Int)),(8,.int .i64 g),(9,.bool b)]∧lookL L 2=some (ic I M)) (fun (_:Unit) s=>False) 2 1 (hasS g) ((M.code.drop fr).take (te - fr))
  (fun N b s hN ⟨T,L,hs,hk,hL⟩=>by
   subst hs
   rw [hll] at hk
   have h':¬((fr+(te - fr):Nat):Int) < (te:Int):=by omega
   unfold a112_B1
   exact ⟨_,by simp only [KK,Nat.reduceEqDiff,Nat.reduceLT,hk,hL,h']; rfl,_,_,rfl,by simp only [keepT,List.map,look_set,look_cons,in_int,in_bool,in_loc,Nat.reduceEqDiff,if_true,if_false,List.contains_cons,List.contains_nil,beq_self_eq_true,Bool.or_false,v1],by simp only [lookL_cons,if_true]⟩)
  (fun N i x b s hN hx ⟨T,L,hs,hk,hL⟩=>by
   subst hs
   obtain ⟨hx1,hx2⟩:=seg_at hx
   have h':((fr+i:Nat):Int) < (te:Int):=by omega
   have a1:=add_i (fr+i) (by omega)
   obtain ⟨b2,o2,cs2,ow2,e1,e2,e3,e4⟩:=hm.c.ii hx1
   have e5:=cells_sub e3 (k:=1) rfl
   unfold hasS isCall
   dsimp only
   unfold a112_B1
   cases b
   ·cases d1:decide (x.op=17)
    ·exact ⟨_,by simp only [KK,Nat.reduceEqDiff,Nat.reduceAdd,Nat.reduceLeDiff,Nat.reduceLT,a112_R2,hk,hL,h',v1,e1,e2,e4,d1,a1]; rfl,_,_,rfl,by simp only [keepT,List.map,look_set,look_cons,in_int,in_bool,in_loc,Nat.reduceEqDiff,if_true,if_false,List.contains_cons,List.contains_nil,beq_self_eq_true,Bool.or_false,v1]; rfl,by simp only [lookL_cons,if_true]⟩
    ·cases d2:decide (x.a=g)
     ·exact ⟨_,by simp only [KK,Nat.reduceEqDiff,Nat.reduceAdd,Nat.reduceLeDiff,Nat.reduceLT,a112_R2,hk,hL,h',v1,e1,e2,e4,e5,d1,d2,a1]; rfl,_,_,rfl,by simp only [keepT,List.map,look_set,look_cons,in_int,in_bool,in_loc,Nat.reduceEqDiff,if_true,if_false,List.contains_cons,List.contains_nil,beq_self_eq_true,Bool.or_false,v1]; rfl,by simp only [lookL_cons,if_true]⟩
     ·exact ⟨_,by simp only [KK,Nat.reduceEqDiff,Nat.reduceAdd,Nat.reduceLeDiff,Nat.reduceLT,a112_R2,hk,hL,h',v1,e1,e2,e4,e5,d1,d2,a1]; rfl,_,_,rfl,by simp only [keepT,List.map,look_set,look_cons,in_int,in_bool,in_loc,Nat.reduceEqDiff,if_true,if_false,List.contains_cons,List.contains_nil,beq_self_eq_true,Bool.or_false,v1]; rfl,by simp only [lookL_cons,if_true]⟩
   ·exact ⟨_,by simp only [KK,Nat.reduceEqDiff,Nat.reduceLT,a112_R2,hk,hL,h',v1,a1]; rfl,_,_,rfl,by simp only [keepT,List.map,look_set,look_cons,in_int,in_bool,in_loc,Nat.reduceEqDiff,if_true,if_false,List.contains_cons,List.contains_nil,beq_self_eq_true,Bool.or_false,Bool.true_or,v1]; rfl,by simp only [lookL_cons,if_true]⟩)
  N false ⟨56,T,L,m1⟩ (by omega) ⟨T,L,rfl,hk,hL⟩ hq
 rw [fold_has,Bool.false_or] at h
 obtain ⟨s',e,T',L',rfl,h3,h4⟩:=h
 exact ⟨T',L',e,h3,h4⟩
def refS (l:List II) (_:Nat) (g:Nat) (acc:List Int):Stp (List Int) Unit:=.go (if l.any (isCall (g:Int))=true then acc++[(g:Int)] else acc)
def refG (l:List II) (gs:List Nat):List Int:=(gs.filter fun (g:Nat)=>l.any (isCall (g:Int))).map fun (g:Nat)=>(g:Int)
theorem fold_ref (l:List II):∀ (gs:List Nat) (i:Nat) (acc:List Int),foldS (refS l) gs i acc=.inl (acc++refG l gs)
 | [],i,acc=>by simp [foldS,refG]
 | g::r,i,acc=>by
  simp only [foldS,refS]
  rw [fold_ref l r (i+1) _]
  by_cases h:l.any (isCall (g:Int))=true
  ·simp [refG,h]
  ·simp [refG,h]
def rcallsP (M:Img) (f:Nat):List Int:=refG (segP M f) (List.range M.funcs.length)
theorem rcall_body (m m1:Mem) (n0:Nat) (I:ImV) (M:Img) (hm:IM m I M) (he:Ext m m1) (hn0:n0=m.n) (hmn:m1.n+3≤2 ^ depth) (v:AV) (acc:List Int) (hal:acc.length≤100000) (ho:OS 1 n0 m1 v (acc.map fun z=>AV.int .i64 z) acc.length) (fr te:Nat) (hl:M.code.length≤100000) (h1:fr≤te) (h2:te≤M.code.length) (hlf:M.funcs.length≤1000) (g:Nat) (hg:g < M.funcs.length) (N:Nat) (T:List (Nat×AV)) (L:List (Nat×List AV)) (hN:M.code.length+1≤N) (hk:keepT [2,5,6,7,8] [2] T=[(2,.loc 2 0),(5,v),(6,.int .i64 (fr:Int)),(7,.int .i64 (te:Int)),(8,.int .i64 (g:Int))]) (hL:lookL L 2=some (ic I M)):
  ∃ T' L' m2 v',codeEv (run A N) (ev A N).2 a112_B2 ⟨56,T,L,m1⟩=some (.norm,⟨56,T',L',m2⟩)∧keepT [2,5,6,7,8] [2] T'=[(2,.loc 2 0),(5,v'),(6,.int .i64 (fr:Int)),(7,.int .i64 (te:Int)),(8,.int .i64 ((g+1:Nat):Int))]∧lookL L' 2=some (ic I M)∧OS 1 n0 m2 v' ((if ((M.code.drop fr).take (te - fr)).any (isCall (g:Int))=true then acc++[(g:Int)] else acc).map fun z=>AV.int .i64 z) (if ((M.code.drop fr).take (te - fr)).any (isCall (g:Int))=true then acc++[(g:Int)] else acc).length∧m1.n≤m2.n∧m2.n≤m1.n+2∧(∀ i,i < n0→m2.get i=m1.get i)∧Ext m m2:=by
 have hP:=hm.pls
 obtain ⟨v1,v2,v3,v4⟩:=ho.plain
 have hm1:=hm.ext he
 have h':(g:Int) < (M.funcs.length:Int):=by omega
 have a1:=add_i g (by omega)
 unfold a112_B2
 simp only [KK,opE_mkslc,Nat.reduceEqDiff,Nat.reduceAdd,Nat.reduceLeDiff,Nat.reduceLT,Nat.reducePow,Nat.mul_one,hk,hL,h',hP,v1]
 generalize hq:codeEv (run A N) (ev A N).2 a112_L1 _=q
 obtain ⟨T1,L1,rfl,g2,g3⟩:=rhas_loop m1 I M hm1 v v1 v2 fr te hl h1 h2 (g:Int) N _ _ hN (by simp only [keepT,List.map,look_set,look_cons,in_int,in_bool,in_loc,Nat.reduceEqDiff,if_true,if_false,List.contains_cons,List.contains_nil,beq_self_eq_true,Bool.or_false,v1]) (by simp only [lookL_cons,if_true]) hq
 cases d1:((M.code.drop fr).take (te - fr)).any (isCall (g:Int))
 ·rw [d1] at g2
  rw [if_neg (by simp)]
  exact ⟨_,_,m1,v,by simp only [KK,Nat.reduceEqDiff,Nat.reduceAdd,Nat.reduceLT,g2,g3,v1,a1]; rfl,by simp only [keepT,List.map,look_set,look_cons,in_int,in_loc,Nat.reduceEqDiff,if_true,if_false,List.contains_cons,List.contains_nil,beq_self_eq_true,Bool.or_false,v1],by simp only [lookL_cons,if_true],ho,Nat.le_refl _,by omega,fun _ _=>rfl,he⟩
 ·rw [d1] at g2
  rw [if_pos rfl]
  have hf:m1.full=false:=not_full (by omega)
  have hz1:zerosEv [AV.int .i64 0] 1=[.int .i64 0]:=rfl
  obtain ⟨v',m2,ha,ho2,hn2,hk2⟩:=app_spec (ty:=none) (c:=1) (n0:=n0) (bytes:=8) (by omega) (ho.push (.cells [.int .i64 (g:Int)] true) (by omega)) (by':=m1.n) (cp:=some 1) (e:=[.int .i64 (g:Int)]) (ow:=true) (Mem.get_push_new _) rfl rfl (by rw [push_n]; omega) (by rw [push_n]; have:=he.1; omega) (by omega) (Nat.le_trans (show acc.length+1≤100001 by omega) (by decide))
  obtain ⟨w1,w2,w3,w4⟩:=ho2.plain
  rw [push_n] at hn2
  have hold:∀ j,j < n0→m2.get j=m1.get j:=fun j hj=>(hk2 j hj).trans (Mem.get_push_old _ hf (by have:=he.1; omega))
  refine ⟨_,_,m2,v',by
   simp only [KK,Nat.reduceEqDiff,Nat.reduceAdd,Nat.reduceLeDiff,Nat.reduceLT,g2,g3,v1,a1,hf,hz1,ha,w1]; rfl,by simp only [keepT,List.map,look_set,look_cons,in_int,in_loc,Nat.reduceEqDiff,if_true,if_false,List.contains_cons,List.contains_nil,beq_self_eq_true,Bool.or_false,w1],by simp only [lookL_cons,if_true],?_,by omega,by omega,hold,?_⟩
  ·simpa using ho2
  ·exact ⟨by have:=he.1; omega,fun j hj=>(hold j (by omega)).trans (he.2 j hj)⟩
theorem rcalls_run (N:Nat) (m:Mem) (I:ImV) (M:Img) (hm:IM m I M) (hl:M.code.length≤100000) (hlf:M.funcs.length≤1000) (f:Nat) (hf:f < M.funcs.length) (hsp:0≤fromP M f∧fromP M f≤toP M f∧toP M f≤M.code.length) (hmn:m.n+2*M.funcs.length+3≤2 ^ depth) (hN:M.code.length+M.funcs.length+4≤N):
  ∃ m' v,run A N 112 [.agg (ic I M),.int .i64 (f:Int)] m=some (v,m')∧OS 1 m.n m' v ((rcallsP M f).map fun z=>AV.int .i64 z) (rcallsP M f).length∧Gr m m' (2*M.funcs.length):=by
 obtain ⟨n,rfl⟩:∃ n,N=n+1:=⟨N - 1,by omega⟩
 have hP:=hm.pls
 have hspan:spanP M (f:Int)=(fromP M f,toP M f):=by
  unfold spanP
  rw [if_neg (by omega),Int.toNat_natCast]
 have hb:=span_run n (by omega) m I M hm (f:Int) (by omega)
 rw [hspan] at hb
 dsimp only at hb
 unfold rcallsP segP
 obtain ⟨fr,hfr⟩:∃ k:Nat,fromP M f=(k:Int):=⟨(fromP M f).toNat,by omega⟩
 obtain ⟨te,hte⟩:∃ k:Nat,toP M f=(k:Int):=⟨(toP M f).toNat,by omega⟩
 rw [hfr,hte] at hb hsp ⊢
 rw [Int.toNat_natCast,Int.toNat_natCast]
 rw [run_112]
 unfold fnEv a112
 simp only [KK,Nat.reduceEqDiff,Nat.reduceAdd,Nat.reduceLeDiff,Nat.reduceLT,a112_R1,hb]
 generalize hq:codeEv (run A n) (ev A n).2 a112_L2 _=q
 have hrl:(List.range M.funcs.length).length=M.funcs.length:=List.length_range
 have h:=scan0 (A:=A) a112_L2 a112_B2 a112_L2_step (fun i (acc:List Int) s=>∃ T L m1 v,s=⟨56,T,L,m1⟩∧keepT [2,5,6,7,8] [2] T=[(2,.loc 2 0),(5,v),(6,.int .i64 (fr:Int)),(7,.int .i64 (te:Int)),(8,.int .i64 (i:Int))]∧lookL L 2=some (ic I M)∧OS 1 m.n m1 v (acc.map fun z=>AV.int .i64 z) acc.length∧Ext m m1∧m1.n≤m.n+2*i∧acc.length≤i∧i≤M.funcs.length) (fun acc s=>∃ T L m1 v,s=⟨56,T,L,m1⟩∧keepT [5] [] T=[(5,v)]∧OS 1 m.n m1 v (acc.map fun z=>AV.int .i64 z) acc.length∧Gr m m1 (2*M.funcs.length)) (fun (_:Unit) s=>False) 0 (M.code.length+1) (refS ((M.code.drop fr).take (te - fr))) (List.range M.funcs.length)
  (fun N b s hN ⟨T,L,m1,v,hs,hk,hL,ho,he,hm1,hb,hi⟩=>by
   subst hs
   rw [hrl] at hk
   obtain ⟨v1,v2,v3,v4⟩:=ho.plain
   have h':¬(M.funcs.length:Int) < (M.funcs.length:Int):=by omega
   unfold a112_B2
   exact ⟨_,by simp only [KK,Nat.reduceEqDiff,Nat.reduceAdd,Nat.reduceLeDiff,Nat.reduceLT,hk,hL,h',hP]; rfl,_,_,_,_,rfl,by simp only [keepT,List.map,look_set,look_cons,Nat.reduceEqDiff,if_true,if_false,v1],ho,he,by omega⟩)
  (fun N i g b s hN hg ⟨T,L,m1,v,hs,hk,hL,ho,he,hm1,hb,hi⟩=>by
   subst hs
   have hlt:=(List.getElem?_eq_some_iff.1 hg).1
   rw [hrl] at hlt
   have hgi:g=i:=by
    rw [List.getElem?_range hlt] at hg
    exact (Option.some.inj hg).symm
   subst hgi
   obtain ⟨T',L',m2,v',e1,e2,e3,e4,e5,e6,e7,e8⟩:=rcall_body m m1 m.n I M hm he rfl (by omega) v b (by omega) ho fr te hl (by omega) (by omega) hlf g hlt N T L hN hk hL
   unfold refS
   refine ⟨_,e1,_,_,_,_,rfl,e2,e3,e4,e8,by omega,?_,by omega⟩
   split
   ·rw [List.length_append,List.length_singleton]; omega
   ·omega)
  n [] _ (by omega) ⟨_,_,m,.nils,rfl,by simp only [keepT,List.map,look_set,look_cons,in_int,in_nils,in_loc,Nat.reduceEqDiff,if_true,if_false,List.contains_cons,List.contains_nil,beq_self_eq_true,Bool.or_false]; rfl,by simp only [lookL_cons,if_true],.inl ⟨rfl,rfl,rfl⟩,Ext.refl m,by omega,by simp,by omega⟩ hq
 rw [fold_ref,List.nil_append] at h
 obtain ⟨s',rfl,T',L',m',v',rfl,h2,h3,h4⟩:=h
 obtain ⟨v1,v2,v3,v4⟩:=h3.plain
 exact ⟨m',v',by simp only [look_set,look_nil,look_cons,Nat.reduceEqDiff,Nat.reduceLT,if_true,if_false,Bool.false_eq_true,Nat.succ_ne_self,h2,v2],h3,h4⟩
theorem opE_xm (call:Caller) (k:XM) (l:List Opd) (s:St):opEv call (.xm k l) s=callWith (fun _ args m=>xmEv k args m) 0 (l.map s.opd) s:=rfl
def thereE:List Int→Nat→List (AV×AV×Nat)
 | [],_=>[]
 | g::r,c=>(.int .i64 g,.bool true,c)::thereE r (c+1)
theorem thereE_app:∀ (l:List Int) (g:Int) (c:Nat),thereE (l++[g]) c=thereE l c++[(.int .i64 g,.bool true,c+l.length)]
 | [],g,c=>by simp [thereE]
 | x::r,g,c=>by
  rw [List.cons_append,thereE,thereE,thereE_app r g (c+1),List.cons_append,List.length_cons]
  congr 5
  omega
theorem find_there (g:Int):∀ (l:List Int) (c j:Nat),(l.contains g=false∧findK .int (.int .i64 g) (thereE l c) j=some none)∨(l.contains g=true∧∃ i,findK .int (.int .i64 g) (thereE l c) j=some (some (i,.bool true)))
 | [],c,j=>.inl ⟨rfl,rfl⟩
 | x::r,c,j=>by
  by_cases h:g=x
  ·subst h
   exact .inr ⟨by simp,j,by simp [thereE,findK,keyEq]⟩
  ·have hb:(g == x)=false:=by simpa using h
   rcases find_there g r (c+1) (j+1) with ⟨h1,h2⟩ | ⟨h1,i,h2⟩
   ·exact .inl ⟨by rw [List.contains_cons,hb,h1]; rfl,by simp only [thereE,findK,keyEq,if_true,hb]; exact h2⟩
   ·exact .inr ⟨by rw [List.contains_cons,hb,h1]; rfl,i,by simp only [thereE,findK,keyEq,if_true,hb]; exact h2⟩
theorem xm_look {m:Mem} {k c:Nat} {out:List Int} (h:m.get k=some (.map (thereE out 0) c)) (g:Int):xmEv (.mlk .int (.bool false) false) [.map k,.int .i64 g] m=some (.bool (out.contains g),m):=by
 rcases find_there g out 0 0 with ⟨h1,h2⟩ | ⟨h1,i,h2⟩
 ·simp only [xmEv,h,h2,h1,Bool.false_eq_true,if_false]
 ·simp only [xmEv,h,h2,h1,Bool.false_eq_true,if_false]
theorem xm_put {m:Mem} {k _c:Nat} {out:List Int} (h:m.get k=some (.map (thereE out 0) out.length)) (g:Int) (hg:out.contains g=false):xmEv (.mup .int) [.map k,.int .i64 g,.bool true] m=some (.unk,m.set k (.map (thereE (out++[g]) 0) (out++[g]).length)):=by
 rcases find_there g out 0 0 with ⟨h1,h2⟩ | ⟨h1,i,h2⟩
 ·have e:keyEq .int (.int .i64 g) (.int .i64 g)=some true:=by simp [keyEq]
  simp only [xmEv,h,h2,e,thereE_app,Nat.zero_add,List.length_append,List.length_singleton]
 ·rw [h1] at hg; cases hg
def rdyS (out:List Int) (_:Nat) (x:Int) (b:Bool):Stp Bool Unit:=.go (b&&out.contains x)
theorem fold_rdy (out:List Int):∀ (l:List Int) (i:Nat) (b:Bool),foldS (rdyS out) l i b=.inl (b&&l.all fun x=>out.contains x)
 | [],i,b=>by simp [foldS]
 | x::r,i,b=>by
  simp only [foldS,rdyS]
  rw [fold_rdy out r (i+1) _,List.all_cons,Bool.and_assoc]
theorem ord_in (m1:Mem) (all:List (List Int)) (a v:AV) (ha:AS m1 a all) (v1:∀ ls,AV.locIn ls v=true) (_v2:v.isLoc=false) (k c:Nat) (out:List Int) (hk0:m1.get k=some (.map (thereE out 0) c)) (nx:Int) (f:Nat) (l:List Int) (hf:all[f]?=some l) (hl:l.length≤100000) (b0:Bool) (C:List AV) (N:Nat) (T:List (Nat×AV)) (L:List (Nat×List AV)) (hN:l.length+1≤N) (hk:keepT [1,3,4,6,7,8,9,10] [1] T=[(1,.loc 1 0),(3,v),(4,a),(6,.map k),(7,.int .i64 nx),(8,.int .i64 (f:Int)),(9,.bool b0),(10,.int .i64 0)]) (hL:lookL L 1=some C) {q:Option (Ex×St)} (hq:codeEv (run A N) (ev A N).2 a77_L1 ⟨76,T,L,m1⟩=q):
  ∃ T' L',q=some (.exit 6,⟨76,T',L',m1⟩)∧keepT [1,3,4,6,7,8,9] [1] T'=[(1,.loc 1 0),(3,v),(4,a),(6,.map k),(7,.int .i64 nx),(8,.int .i64 (f:Int)),(9,.bool (b0&&l.all fun x=>out.contains x))]∧lookL L' 1=some C:=by
 obtain ⟨a1,a2,a3,a4⟩:=ha.plain
 obtain ⟨b,o,cs,ow,w,e1,e2,e3,hw⟩:=ha.at hf
 obtain ⟨w1,w2,w3,w4⟩:=hw.plain
 have lw:=hw.lenR
 have h:=scan0 (A:=A) a77_L1 a77_B1 a77_L1_step (fun i (b:Bool) s=>∃ T L,s=⟨76,T,L,m1⟩∧keepT [1,3,4,6,7,8,9,10] [1] T=[(1,.loc 1 0),(3,v),(4,a),(6,.map k),(7,.int .i64 nx),(8,.int .i64 (f:Int)),(9,.bool b),(10,.int .i64 (i:Int))]∧lookL L 1=some C) (fun b s=>∃ T L,s=⟨76,T,L,m1⟩∧keepT [1,3,4,6,7,8,9] [1] T=[(1,.loc 1 0),(3,v),(4,a),(6,.map k),(7,.int .i64 nx),(8,.int .i64 (f:Int)),(9,.bool b)]∧lookL L 1=some C) (fun (_:Unit) s=>False) 6 1 (rdyS out) l
  (fun N b s hN ⟨T,L,hs,hk,hL⟩=>by
   subst hs
   have h':¬(l.length:Int) < (l.length:Int):=by omega
   unfold a77_B1
   exact ⟨_,by simp only [KK,Nat.reduceEqDiff,Nat.reduceLT,hk,hL,h',e1,e2,e3,lw]; rfl,_,_,rfl,by simp only [keepT,List.map,look_set,look_cons,in_int,in_bool,in_loc,Nat.reduceEqDiff,if_true,if_false,List.contains_cons,List.contains_nil,beq_self_eq_true,Bool.or_false,in_map,v1,a1],by simp only [lookL_cons,if_true]⟩)
  (fun N i x b s hN hx ⟨T,L,hs,hk,hL⟩=>by
   subst hs
   have hlt:=(List.getElem?_eq_some_iff.1 hx).1
   have h':(i:Int) < (l.length:Int):=by omega
   have ad:=add_i i (by omega)
   obtain ⟨b2,o2,cs2,ow2,g1,g2,g3⟩:=hw.i1 hx
   have hlk:=xm_look hk0 x
   unfold rdyS
   dsimp only
   unfold a77_B1
   cases b
   ·exact ⟨_,by simp only [KK,Nat.reduceEqDiff,Nat.reduceLT,a77_R1,hk,hL,h',a1,v1,e1,e2,e3,lw,ad]; rfl,_,_,rfl,by simp only [keepT,List.map,look_set,look_cons,in_int,in_bool,in_loc,Nat.reduceEqDiff,if_true,if_false,List.contains_cons,List.contains_nil,beq_self_eq_true,Bool.or_false,in_map,v1,a1]; rfl,by simp only [lookL_cons,if_true]⟩
   ·exact ⟨_,by simp only [KK,Nat.reduceEqDiff,Nat.reduceLT,opE_xm,a77_R1,hk,hL,h',a1,v1,e1,e2,e3,lw,ad,g1,g2,g3,hlk]; rfl,_,_,rfl,by simp only [keepT,List.map,look_set,look_cons,in_int,in_bool,in_loc,Nat.reduceEqDiff,if_true,if_false,List.contains_cons,List.contains_nil,beq_self_eq_true,Bool.or_false,in_map,v1,a1,Bool.true_and],by simp only [lookL_cons,if_true]⟩)
  N b0 ⟨76,T,L,m1⟩ (by omega) ⟨T,L,rfl,hk,hL⟩ hq
 rw [fold_rdy] at h
 obtain ⟨s',e,T',L',rfl,h3,h4⟩:=h
 exact ⟨T',L',e,h3,h4⟩
def isRdy (all:List (List Int)) (out:List Int) (f:Nat):Bool:=!out.contains (f:Int)&&((all[f]?).getD []).all fun x=>out.contains x
def nxtS (all:List (List Int)) (out:List Int) (_:Nat) (f:Nat) (nx:Int):Stp Int Unit:=.go (if isRdy all out f=true then (f:Int) else nx)
def nextR (all:List (List Int)) (out:List Int):List Nat→Int→Int
 | [],nx=>nx
 | f::r,nx=>nextR all out r (if isRdy all out f=true then (f:Int) else nx)
theorem fold_nxt (all:List (List Int)) (out:List Int):∀ (l:List Nat) (i:Nat) (nx:Int),foldS (nxtS all out) l i nx=.inl (nextR all out l nx)
 | [],i,nx=>rfl
 | f::r,i,nx=>by
  simp only [foldS,nxtS]
  rw [fold_nxt all out r (i+1) _]
  rfl
theorem ord_mid (m1:Mem) (all:List (List Int)) (a v:AV) (ha:AS m1 a all) (v1:∀ ls,AV.locIn ls v=true) (v2:v.isLoc=false) (k c:Nat) (out:List Int) (hk0:m1.get k=some (.map (thereE out 0) c)) (hal:all.length≤1000) (hll:∀ l∈all,l.length≤1000) (C:List AV) (N:Nat) (T:List (Nat×AV)) (L:List (Nat×List AV)) (hN:all.length+1002≤N) (hk:keepT [1,3,4,6,7,8] [1] T=[(1,.loc 1 0),(3,v),(4,a),(6,.map k),(7,.int .i64 (-1)),(8,.int .i64 ((all.length:Int) - 1))]) (hL:lookL L 1=some C) {q:Option (Ex×St)} (hq:codeEv (run A N) (ev A N).2 a77_L2 ⟨76,T,L,m1⟩=q):
  ∃ T' L',q=some (.exit 4,⟨76,T',L',m1⟩)∧keepT [1,3,4,6,7] [1] T'=[(1,.loc 1 0),(3,v),(4,a),(6,.map k),(7,.int .i64 (nextR all out (List.range all.length).reverse (-1)))]∧lookL L' 1=some C:=by
 obtain ⟨a1,a2,a3,a4⟩:=ha.plain
 have hrl:(List.range all.length).reverse.length=all.length:=by rw [List.length_reverse,List.length_range]
 have h:=scan0 (A:=A) a77_L2 a77_B2 a77_L2_step (fun i (nx:Int) s=>∃ T L,s=⟨76,T,L,m1⟩∧keepT [1,3,4,6,7,8] [1] T=[(1,.loc 1 0),(3,v),(4,a),(6,.map k),(7,.int .i64 nx),(8,.int .i64 ((all.length:Int) - 1 - (i:Int)))]∧lookL L 1=some C) (fun nx s=>∃ T L,s=⟨76,T,L,m1⟩∧keepT [1,3,4,6,7] [1] T=[(1,.loc 1 0),(3,v),(4,a),(6,.map k),(7,.int .i64 nx)]∧lookL L 1=some C) (fun (_:Unit) s=>False) 4 1001 (nxtS all out) (List.range all.length).reverse
  (fun N b s hN ⟨T,L,hs,hk,hL⟩=>by
   subst hs
   rw [hrl] at hk
   have h':¬(0:Int)≤(all.length:Int) - 1 - (all.length:Int):=by omega
   unfold a77_B2
   exact ⟨_,by simp only [KK,Nat.reduceEqDiff,Nat.reduceLT,hk,hL,h']; rfl,_,_,rfl,by simp only [keepT,List.map,look_set,look_cons,in_int,in_loc,Nat.reduceEqDiff,if_true,if_false,List.contains_cons,List.contains_nil,beq_self_eq_true,Bool.or_false,in_map,v1,a1],by simp only [lookL_cons,if_true]⟩)
  (fun N i f nx s hN hx ⟨T,L,hs,hk,hL⟩=>by
   subst hs
   have hlt:=(List.getElem?_eq_some_iff.1 hx).1
   rw [hrl] at hlt
   have hfi:(all.length:Int) - 1 - (i:Int)=(f:Int):=by
    rw [List.getElem?_reverse (by rw [List.length_range]; exact hlt),List.length_range,List.getElem?_range (by omega)] at hx
    have:=Option.some.inj hx
    omega
   have hf1:f < all.length:=by omega
   rw [hfi] at hk
   obtain ⟨l,hf⟩:∃ l,all[f]?=some l:=⟨_,List.getElem?_eq_getElem hf1⟩
   have hl:=hll l (List.mem_of_getElem? hf)
   have h':(0:Int)≤(f:Int):=by omega
   have hlk:=xm_look hk0 (f:Int)
   have hsb:binEv .sub (.int .i64 (f:Int)) (.int .i64 1)=some (.int .i64 ((all.length:Int) - 1 - ((i+1:Nat):Int))):=by
    have e:(all.length:Int) - 1 - ((i+1:Nat):Int)=(f:Int) - 1:=by omega
    rw [e]
    simp only [binEv,if_true,intBin,IntKind.wrap,IntKind.bits]
    simp [IntKind.signed]
    omega
   unfold nxtS
   dsimp only
   have hr:isRdy all out f=(!out.contains (f:Int)&&l.all fun x=>out.contains x):=by unfold isRdy; rw [hf]; rfl
   unfold a77_B2
   simp only [KK,Nat.reduceEqDiff,Nat.reduceLT,opE_xm,hk,hL,h',a1,v1,hlk]
   generalize hq:codeEv (run A N) (ev A N).2 a77_L1 _=q
   obtain ⟨T1,L1,rfl,g2,g3⟩:=ord_in m1 all a v ha v1 v2 k c out hk0 nx f l hf (by omega) (!out.contains (f:Int)) C N _ _ (by omega) (by simp only [keepT,List.map,look_set,look_cons,in_int,in_bool,in_loc,Nat.reduceEqDiff,if_true,if_false,List.contains_cons,List.contains_nil,beq_self_eq_true,Bool.or_false,in_map,v1,a1]) (by simp only [lookL_cons,if_true]) hq
   rw [←hr] at g2
   cases hrd:isRdy all out f
   ·rw [hrd] at g2
    exact ⟨_,by simp only [KK,Nat.reduceEqDiff,Nat.reduceLT,g2,g3,a1,v1,hsb]; rfl,_,_,rfl,by simp only [keepT,List.map,look_set,look_cons,in_int,in_loc,Nat.reduceEqDiff,if_true,if_false,Bool.false_eq_true,List.contains_cons,List.contains_nil,beq_self_eq_true,Bool.or_false,in_map,v1,a1],by simp only [lookL_cons,if_true]⟩
   ·rw [hrd] at g2
    exact ⟨_,by simp only [KK,Nat.reduceEqDiff,Nat.reduceLT,g2,g3,a1,v1,hsb]; rfl,_,_,rfl,by simp only [keepT,List.map,look_set,look_cons,in_int,in_loc,Nat.reduceEqDiff,if_true,if_false,List.contains_cons,List.contains_nil,beq_self_eq_true,Bool.or_false,in_map,v1,a1],by simp only [lookL_cons,if_true]⟩)
  N (-1) ⟨76,T,L,m1⟩ (by rw [hrl]; omega) ⟨T,L,rfl,by rw [hk]; simp,hL⟩ hq
 rw [fold_nxt] at h
 obtain ⟨s',e,T',L',rfl,h3,h4⟩:=h
 exact ⟨T',L',e,h3,h4⟩
def blkOf:AV→Option Nat
 | .slice b _ _ _ _=>some b
 | _=>none
theorem RS.frame {α:Type} {f:α→List AV} {c:Nat} {m m':Mem} {v:AV} {l:List α} (h:RS f c m v l) (hk:∀ b,b < m.n→blkOf v=some b→m'.get b=m.get b):RS f c m' v l:=by
 rcases h with h | ⟨b,o,cap,e,rfl,h⟩
 ·exact .inl h
 ·refine .inr ⟨b,o,cap,e,rfl,fun i x hx=>?_⟩
  obtain ⟨cs,own,h1,h2⟩:=h i x hx
  exact ⟨cs,own,(hk b (Mem.get_lt h1) rfl).trans h1,h2⟩
theorem app_spec2 {ty:Option Nat} {c n0 bytes:Nat} (hc:0 < c) {m:Mem} {v:AV} {cs:List AV} {n:Nat} (hv:OS c n0 m v cs n) {by':Nat} {cp:Option Nat} {e:List AV} {ow:Bool} (hy:m.get by'=some (.cells e ow)) (he:e.length=c) (h1:e.all AV.one=true)
  (hmn:m.n < 2 ^ depth) (hb:(2*(n+1))*bytes≤281474976710656) (hn:n+1≤maxLen):
  ∃ m',(∀ sn t l,appEv ⟨sn,t,l,m⟩ ty c bytes v (.slice by' 0 1 cp c)=some (.slice m.n 0 (n+1) none c,⟨sn,t,l,m'⟩))∧m'.get m.n=some (.cells (cs++e) true)∧(cs++e).length=(n+1)*c∧m'.n=m.n+1∧(∀ i,i < m.n→blkOf v≠some i→m'.get i=m.get i):=by
 have hel:∀ sn t l,(AV.slice by' 0 1 cp c).elems ⟨sn,t,l,m⟩ c=some (1,e):=by
  intro sn t l
  simp only [AV.elems,hy]
  have:cellsAt e 0 (1*c)=some e:=by
   unfold cellsAt
   rw [if_pos (by omega)]
   simp [←he]
  rw [this]
  try rfl
 have hf:=not_full hmn
 rcases hv with ⟨rfl,rfl,rfl⟩ | ⟨b,h0,rfl,h2,h3⟩
 ·refine ⟨(m.push (.cells e true)).noteO m.n ty,fun sn t l=>?_,by rw [Mem.get_noteO]; exact Mem.get_push_new _,by simp [he],noteO_n _ _ _,fun i hi _=>by rw [Mem.get_noteO]; exact Mem.get_push_old _ hf (by omega)⟩
  simp only [appEv,hel,h1,hf,if_true,Bool.false_eq_true,if_false]
  rw [if_neg (by decide),if_pos (by constructor <;> omega)]
 ·have hbl:=Mem.get_lt h2
  refine ⟨((m.set b .dead).push (.cells (cs++e) true)).noteO m.n (if (m.tyOf b).map (·.1)=ty then ty else none),fun sn t l=>?_,?_,by simp [he,h3,Nat.add_mul],noteO_n _ _ _,fun i hi hne=>?_⟩
  ·simp only [appEv,hel,h1,hf,if_true,Bool.false_eq_true,if_false,h2]
   have c1:¬(0+(n+1)*c≤cs.length):=by rw [h3,Nat.add_mul]; omega
   have c2:cellsAt cs 0 (n*c)=some cs:=by
    unfold cellsAt
    rw [if_pos (by omega)]
    simp [←h3]
   rw [if_pos ⟨trivial,hc⟩,if_neg c1,c2]
   simp only
   rw [if_pos ⟨hb,hn⟩]
  ·have:=Mem.get_push_new (m:=m.set b .dead) (.cells (cs++e) true)
   rw [set_n] at this
   rw [Mem.get_noteO]
   exact this
  ·have hib:i≠b:=fun h=>hne (by rw [h]; rfl)
   rw [Mem.get_noteO,Mem.get_push_old _ (by rw [not_full]; rw [set_n]; exact hmn) (by rw [set_n]; omega),Mem.get_set_ne _ (by omega) hbl (Ne.symm hib)]
theorem OS.ints {n0:Nat} {m:Mem} {v:AV} {zs:List Int} (h:OS 1 n0 m v (zs.map fun z=>AV.int .i64 z) zs.length):RS (fun x=>[AV.int .i64 x]) 1 m v zs:=by
 refine OS.rs (f:=fun x:Int=>[AV.int .i64 x]) (c:=1) (n0:=n0) (fun _=>rfl) ?_
 have e:(zs.flatMap fun x=>[AV.int .i64 x])=zs.map fun z=>AV.int .i64 z:=by
  induction zs with
  | nil=>rfl
  | cons a r ih=>rw [List.flatMap_cons,List.map_cons,←(show (r.flatMap fun x=>[AV.int .i64 x])=r.map fun z=>AV.int .i64 z by clear h ih; induction r with
   | nil=>rfl
   | cons a r ih=>rw [List.flatMap_cons,List.map_cons,ih]; rfl)]; rfl
 rw [e]
 exact h
def Rows (m:Mem) (a:AV) (ws:List AV) (ls:List (List Int)):Prop:=ws.length=ls.length∧∀ (i:Nat) (w:AV) (l:List Int),ws[i]?=some w→ls[i]?=some l→RS (fun x=>[AV.int .i64 x]) 1 m w l∧∀ b,blkOf w=some b→b < m.n∧blkOf a≠some b
theorem row_body (m m1:Mem) (I:ImV) (M:Img) (hm:IM m I M) (he:Ext m m1) (hl:M.code.length≤100000) (hlf:M.funcs.length≤1000) (f:Nat) (hf:f < M.funcs.length) (hsp:0≤fromP M f∧fromP M f≤toP M f∧toP M f≤M.code.length) (hmn:m1.n+2*M.funcs.length+6≤2 ^ depth) (a:AV) (ws:List AV) (ls:List (List Int)) (hal:ws.length≤1000) (ho:OS 1 m.n m1 a ws ws.length) (hr:Rows m1 a ws ls) (N:Nat) (T:List (Nat×AV)) (L:List (Nat×List AV)) (hN:M.code.length+M.funcs.length+4≤N) (hk:keepT [1,3,4,5] [1] T=[(1,.loc 1 0),(3,.nils),(4,a),(5,.int .i64 (f:Int))]) (hL:lookL L 1=some (ic I M)):
  ∃ T' L' m2 a' ws',codeEv (run A N) (ev A N).2 a77_B4 ⟨76,T,L,m1⟩=some (.norm,⟨76,T',L',m2⟩)∧keepT [1,3,4,5] [1] T'=[(1,.loc 1 0),(3,.nils),(4,a'),(5,.int .i64 ((f+1:Nat):Int))]∧lookL L' 1=some (ic I M)∧ws'.length=ws.length+1∧OS 1 m.n m2 a' ws' ws'.length∧Rows m2 a' ws' (ls++[rcallsP M f])∧Ext m m2∧m2.n≤m1.n+2*M.funcs.length+2:=by
 have hP:=hm.pls
 obtain ⟨a1,a2,a3,a4⟩:=ho.plain
 have h':(f:Int) < (M.funcs.length:Int):=by omega
 have ad:=add_i f (by omega)
 obtain ⟨m2,v,hc,hv,hg⟩:=rcalls_run N m1 I M (hm.ext he) hl hlf f hf hsp (by omega) hN
 obtain ⟨v1,v2,v3,v4⟩:=hv.plain
 have hn2:=hg.2
 have hn1:=he.1
 have hgn:=hg.1.1
 have hf2:m2.full=false:=not_full (by omega)
 have hz1:zerosEv [AV.nils] 1=[.nils]:=rfl
 have ho2:OS 1 m.n m2 a ws ws.length:=by
  rcases ho with h | ⟨b,h0,rfl,g1,g2⟩
  ·exact .inl h
  ·exact .inr ⟨b,h0,rfl,(hg.1.2 b (Mem.get_lt g1)).trans g1,g2⟩
 have hab:∀ b,blkOf a=some b→m.n≤b∧b < m1.n:=by
  intro b hb
  rcases ho with ⟨rfl,_⟩ | ⟨b',h0,rfl,g1,g2⟩
  ·cases hb
  ·cases hb
   exact ⟨h0,Mem.get_lt g1⟩
 obtain ⟨m4,ha,g1,g2,g3,g4⟩:=app_spec2 (ty:=none) (c:=1) (n0:=m.n) (bytes:=24) (by omega) (ho2.push (.cells [v] true) (by omega)) (by':=m2.n) (cp:=some 1) (e:=[v]) (ow:=true) (Mem.get_push_new _) rfl (by simp [v3]) (by rw [push_n]; omega) (by omega) (Nat.le_trans (show ws.length+1≤1001 by omega) (by decide))
 rw [push_n] at ha g1 g3 g4
 have hold:∀ i,i < m2.n→blkOf a≠some i→m4.get i=m2.get i:=fun i hi hne=>(g4 i (by omega) hne).trans (Mem.get_push_old _ hf2 (by omega))
 refine ⟨_,_,m4,.slice (m2.n+1) 0 (ws.length+1) none 1,ws++[v],by
  unfold a77_B4
  simp only [KK,opE_mkslc,Nat.reduceEqDiff,Nat.reduceAdd,Nat.reduceLeDiff,Nat.reduceLT,Nat.reducePow,Nat.mul_one,hk,hL,h',hP,a1,v4,hc,hf2,hz1,ha,ad]; rfl,by simp only [keepT,List.map,look_set,look_cons,in_int,in_slice,in_nils,in_loc,Nat.reduceEqDiff,if_true,if_false,List.contains_cons,List.contains_nil,beq_self_eq_true,Bool.or_false],by simp only [lookL_cons,if_true],by simp,?_,?_,?_,by omega⟩
 ·exact .inr ⟨m2.n+1,by omega,by simp,g1,by simp⟩
 ·refine ⟨by simp [hr.1],fun i w l hw hl=>?_⟩
  by_cases hi:i < ws.length
  ·rw [List.getElem?_append_left hi] at hw
   rw [List.getElem?_append_left (by rw [←hr.1]; exact hi)] at hl
   obtain ⟨q1,q2⟩:=hr.2 i w l hw hl
   refine ⟨q1.frame fun b hb hbw=>?_,fun b hb=>⟨by have:=(q2 b hb).1; omega,?_⟩⟩
   ·exact (hold b (by omega) (q2 b hbw).2).trans (hg.1.2 b hb)
   ·have:=(q2 b hb).1
    simp only [blkOf,ne_eq,Option.some.injEq]
    omega
  ·have hi2:i=ws.length:=by
    have:=(List.getElem?_eq_some_iff.1 hw).1
    rw [List.length_append,List.length_singleton] at this
    omega
   subst hi2
   rw [List.getElem?_append_right (Nat.le_refl _),Nat.sub_self] at hw
   rw [List.getElem?_append_right (by rw [hr.1]; exact Nat.le_refl _),hr.1,Nat.sub_self] at hl
   cases hw
   cases hl
   have hvb:∀ b,blkOf v=some b→m1.n≤b∧b < m2.n:=by
    intro b hb
    rcases hv with ⟨rfl,_⟩ | ⟨b',h0,rfl,k1,k2⟩
    ·cases hb
    ·cases hb
     exact ⟨h0,Mem.get_lt k1⟩
   refine ⟨(OS.ints hv).frame fun b hb hbw=>?_,fun b hb=>⟨by have:=(hvb b hb).2; omega,?_⟩⟩
   ·refine hold b hb fun h=>?_
    have:=(hab b h).2
    have:=(hvb b hbw).1
    omega
   ·have:=(hvb b hb).2
    simp only [blkOf,ne_eq,Option.some.injEq]
    omega
 ·refine ⟨by omega,fun i hi=>?_⟩
  rw [hold i (by omega) fun h=>by have:=(hab i h).1; omega,hg.1.2 i (by omega),he.2 i hi]
def rowsP (M:Img):List (List Int):=(List.range M.funcs.length).map (rcallsP M)
def rowS (M:Img) (_:Nat) (g:Nat) (acc:List (List Int)):Stp (List (List Int)) Unit:=.go (acc++[rcallsP M g])
theorem fold_rows (M:Img):∀ (l:List Nat) (i:Nat) (acc:List (List Int)),foldS (rowS M) l i acc=.inl (acc++l.map (rcallsP M))
 | [],i,acc=>by simp [foldS]
 | g::r,i,acc=>by
  simp only [foldS,rowS]
  rw [fold_rows M r (i+1) _]
  simp
theorem Rows.as {n0:Nat} {m:Mem} {a:AV} {ws:List AV} {ls:List (List Int)} (h:Rows m a ws ls) (ho:OS 1 n0 m a ws ws.length):AS m a ls:=by
 refine ⟨ws,OS.rs (f:=fun w:AV=>[w]) (c:=1) (n0:=n0) (fun _=>rfl) ?_,h.1,fun i w l hw hl=>.inl (h.2 i w l hw hl).1⟩
 have e:(ws.flatMap fun w=>[w])=ws:=by simp
 rw [e]
 exact ho
theorem rows_loop (m:Mem) (I:ImV) (M:Img) (hm:IM m I M) (hl:M.code.length≤100000) (hlf:M.funcs.length≤1000) (hsp:∀ f,f < M.funcs.length→0≤fromP M f∧fromP M f≤toP M f∧toP M f≤M.code.length) (hmn:m.n+(2*M.funcs.length+2)*M.funcs.length+10≤2 ^ depth) (N:Nat) (T:List (Nat×AV)) (L:List (Nat×List AV)) (hN:M.code.length+2*M.funcs.length+8≤N) (hk:keepT [1,3,4,5] [1] T=[(1,.loc 1 0),(3,.nils),(4,.nils),(5,.int .i64 0)]) (hL:lookL L 1=some (ic I M)) {q:Option (Ex×St)} (hq:codeEv (run A N) (ev A N).2 a77_L4 ⟨76,T,L,m⟩=q):
  ∃ T' L' m' a,q=some (.exit 0,⟨76,T',L',m'⟩)∧keepT [1,3,4] [1] T'=[(1,.loc 1 0),(3,.nils),(4,a)]∧lookL L' 1=some (ic I M)∧AS m' a (rowsP M)∧Gr m m' ((2*M.funcs.length+2)*M.funcs.length):=by
 have hrl:(List.range M.funcs.length).length=M.funcs.length:=List.length_range
 have h:=scan0 (A:=A) a77_L4 a77_B4 a77_L4_step (fun i (acc:List (List Int)) s=>∃ T L m1 a ws,s=⟨76,T,L,m1⟩∧keepT [1,3,4,5] [1] T=[(1,.loc 1 0),(3,.nils),(4,a),(5,.int .i64 (i:Int))]∧lookL L 1=some (ic I M)∧OS 1 m.n m1 a ws ws.length∧Rows m1 a ws acc∧Ext m m1∧m1.n≤m.n+(2*M.funcs.length+2)*i∧ws.length=i∧i≤M.funcs.length) (fun acc s=>∃ T' L' m' a,s=⟨76,T',L',m'⟩∧keepT [1,3,4] [1] T'=[(1,.loc 1 0),(3,.nils),(4,a)]∧lookL L' 1=some (ic I M)∧AS m' a acc∧Gr m m' ((2*M.funcs.length+2)*M.funcs.length)) (fun (_:Unit) s=>False) 0 (M.code.length+M.funcs.length+4) (rowS M) (List.range M.funcs.length)
  (fun N b s hN ⟨T,L,m1,a,ws,hs,hk,hL,ho,hr,he,hm1,hw,hi⟩=>by
   subst hs
   rw [hrl] at hk hm1
   have hP:=hm.pls
   obtain ⟨a1,a2,a3,a4⟩:=ho.plain
   have h':¬(M.funcs.length:Int) < (M.funcs.length:Int):=by omega
   unfold a77_B4
   exact ⟨_,by simp only [KK,Nat.reduceEqDiff,Nat.reduceAdd,Nat.reduceLeDiff,Nat.reduceLT,hk,hL,h',hP]; rfl,_,_,_,_,rfl,by simp only [keepT,List.map,look_set,look_cons,in_nils,in_loc,Nat.reduceEqDiff,if_true,if_false,List.contains_cons,List.contains_nil,beq_self_eq_true,Bool.or_false,a1],by simp only [lookL_cons,if_true],hr.as ho,he,hm1⟩)
  (fun N i g b s hN hg ⟨T,L,m1,a,ws,hs,hk,hL,ho,hr,he,hm1,hw,hi⟩=>by
   subst hs
   have hlt:=(List.getElem?_eq_some_iff.1 hg).1
   rw [hrl] at hlt
   have hgi:g=i:=by
    rw [List.getElem?_range hlt] at hg
    exact (Option.some.inj hg).symm
   subst hgi
   have hmul:(2*M.funcs.length+2)*(g+1)≤(2*M.funcs.length+2)*M.funcs.length:=Nat.mul_le_mul_left _ (by omega)
   rw [Nat.mul_succ] at hmul
   obtain ⟨T',L',m2,a',ws',e1,e2,e3,e4,e5,e6,e7,e8⟩:=row_body m m1 I M hm he hl hlf g hlt (hsp g hlt) (by omega) a ws b (by omega) ho hr N T L hN hk hL
   exact ⟨_,e1,_,_,_,_,_,rfl,e2,e3,e5,e6,e7,by rw [Nat.mul_succ]; omega,by omega,by omega⟩)
  N [] ⟨76,T,L,m⟩ (by rw [hrl]; omega) ⟨T,L,m,.nils,[],rfl,hk,hL,.inl ⟨rfl,rfl,rfl⟩,⟨rfl,fun i w l hw=>by simp at hw⟩,Ext.refl m,by omega,rfl,by omega⟩ hq
 rw [fold_rows,List.nil_append] at h
 obtain ⟨s',e,T',L',m',a,rfl,h2,h3,h4,h5⟩:=h
 exact ⟨T',L',m',a,e,h2,h3,h4,h5⟩
theorem nextR_law (all:List (List Int)) (out:List Int):∀ (l:List Nat) (nx:Int),nextR all out l nx=nx∨∃ f∈l,nextR all out l nx=(f:Int)∧isRdy all out f=true
 | [],nx=>.inl rfl
 | f::r,nx=>by
  rw [nextR]
  rcases nextR_law all out r (if isRdy all out f=true then (f:Int) else nx) with h | ⟨g,hg,h1,h2⟩
  ·rw [h]
   by_cases hr:isRdy all out f=true
   ·rw [if_pos hr]
    exact .inr ⟨f,List.mem_cons_self ..,rfl,hr⟩
   ·rw [if_neg hr]
    exact .inl rfl
  ·exact .inr ⟨g,List.mem_cons_of_mem _ hg,h1,h2⟩
def nextOf (all:List (List Int)) (out:List Int):Int:=nextR all out (List.range all.length).reverse (-1)
theorem nextOf_new {all:List (List Int)} {out:List Int} (h:¬nextOf all out < 0):out.contains (nextOf all out)=false:=by
 rcases nextR_law all out (List.range all.length).reverse (-1) with h1 | ⟨f,hf,h1,h2⟩
 ·unfold nextOf at h
  rw [h1] at h
  omega
 ·unfold nextOf
  rw [h1]
  unfold isRdy at h2
  rw [Bool.and_eq_true] at h2
  simpa using h2.1
def kahnS (all:List (List Int)) (_:Nat) (_:Nat) (out:List Int):Stp (List Int) (List Int):=if nextOf all out < 0 then .ret out else .go (out++[nextOf all out])
theorem round_body (mA m1:Mem) (I:ImV) (M:Img) (hm:IM m1 I M) (he:Ext mA m1) (all:List (List Int)) (a v:AV) (ha:AS m1 a all) (hln:all.length=M.funcs.length) (hal:all.length≤1000) (hll:∀ l∈all,l.length≤1000) (k:Nat) (hkA:k=mA.n) (out:List Int) (hout:out.length < all.length) (hk0:m1.get k=some (.map (thereE out 0) out.length)) (ho:OS 1 (k+1) m1 v (out.map fun z=>AV.int .i64 z) out.length) (hmn:m1.n+6≤2 ^ depth) (N:Nat) (T:List (Nat×AV)) (L:List (Nat×List AV)) (hN:all.length+1002≤N) (hk:keepT [1,3,4,6] [1] T=[(1,.loc 1 0),(3,v),(4,a),(6,.map k)]) (hL:lookL L 1=some (ic I M)):
  (nextOf all out < 0∧∃ T' L',codeEv (run A N) (ev A N).2 a77_B3 ⟨76,T,L,m1⟩=some (.ret,⟨76,T',L',m1⟩)∧look T' 2=v)∨(¬nextOf all out < 0∧∃ T' L' m2 v',codeEv (run A N) (ev A N).2 a77_B3 ⟨76,T,L,m1⟩=some (.norm,⟨76,T',L',m2⟩)∧keepT [1,3,4,6] [1] T'=[(1,.loc 1 0),(3,v'),(4,a),(6,.map k)]∧lookL L' 1=some (ic I M)∧OS 1 (k+1) m2 v' ((out++[nextOf all out]).map fun z=>AV.int .i64 z) (out++[nextOf all out]).length∧m2.get k=some (.map (thereE (out++[nextOf all out]) 0) (out++[nextOf all out]).length)∧Ext mA m2∧m2.n≤m1.n+2):=by
 have hP:=hm.pls
 obtain ⟨a1,a2,a3,a4⟩:=ha.plain
 obtain ⟨v1,v2,v3,v4⟩:=ho.plain
 have lo:∀ s,AG.lenR v s=some (.int .i64 out.length,s):=ho.ints.lenR
 have h':(out.length:Int) < (M.funcs.length:Int):=by omega
 have hkb:=Mem.get_lt hk0
 have hsb:binEv .sub (.int .i64 (M.funcs.length:Int)) (.int .i64 1)=some (.int .i64 ((all.length:Int) - 1)):=by
  rw [hln]
  simp only [binEv,if_true,intBin,IntKind.wrap,IntKind.bits]
  simp [IntKind.signed]
  omega
 unfold a77_B3
 simp only [KK,Nat.reduceEqDiff,Nat.reduceAdd,Nat.reduceLeDiff,Nat.reduceLT,hk,hL,h',hP,a1,v1,lo,hsb]
 generalize hq:codeEv (run A N) (ev A N).2 a77_L2 _=q
 obtain ⟨T1,L1,rfl,g2,g3⟩:=ord_mid m1 all a v ha v1 v2 k out.length out hk0 hal hll (ic I M) N _ _ hN (by simp only [keepT,List.map,look_set,look_cons,in_int,in_loc,Nat.reduceEqDiff,if_true,if_false,List.contains_cons,List.contains_nil,beq_self_eq_true,Bool.or_false,in_map,v1,a1]) (by simp only [lookL_cons,if_true]) hq
 have hnx:nextR all out (List.range all.length).reverse (-1)=nextOf all out:=rfl
 rw [hnx] at g2
 by_cases hn:nextOf all out < 0
 ·exact .inl ⟨hn,_,_,by simp only [KK,Nat.reduceEqDiff,Nat.reduceLT,g2,g3,v1,hn]; rfl,by simp only [look_set,look_cons,Nat.reduceEqDiff,if_true,if_false]⟩
 ·have hf:m1.full=false:=not_full (by omega)
  have hz1:zerosEv [AV.int .i64 0] 1=[.int .i64 0]:=rfl
  have hn1:=he.1
  obtain ⟨v',m2,hap,ho2,hn2,hk2⟩:=app_spec (ty:=none) (c:=1) (n0:=k+1) (bytes:=8) (by omega) (ho.push (.cells [.int .i64 (nextOf all out)] true) (by omega)) (by':=m1.n) (cp:=some 1) (e:=[.int .i64 (nextOf all out)]) (ow:=true) (Mem.get_push_new _) rfl rfl (by rw [push_n]; omega) (by rw [push_n]; omega) (by omega) (Nat.le_trans (show out.length+1≤1001 by omega) (by decide))
  obtain ⟨w1,w2,w3,w4⟩:=ho2.plain
  rw [push_n] at hn2
  have hold:∀ j,j < k+1→m2.get j=m1.get j:=fun j hj=>(hk2 j hj).trans (Mem.get_push_old _ hf (by omega))
  have hk3:m2.get k=some (.map (thereE out 0) out.length):=(hold k (by omega)).trans hk0
  have hput:=xm_put (_c:=0) hk3 (nextOf all out) (nextOf_new hn)
  refine .inr ⟨hn,_,_,m2.set k (.map (thereE (out++[nextOf all out]) 0) (out++[nextOf all out]).length),v',by
   simp only [KK,opE_mkslc,Nat.reduceEqDiff,Nat.reduceAdd,Nat.reduceLeDiff,Nat.reduceLT,Nat.reducePow,Nat.mul_one,opE_xm,a77_R2,g2,g3,a1,v1,hn,hf,hz1,hap,hput]; rfl,by simp only [keepT,List.map,look_set,look_cons,in_loc,Nat.reduceEqDiff,if_true,if_false,List.contains_cons,List.contains_nil,beq_self_eq_true,Bool.or_false,in_map,w1,a1],by simp only [lookL_cons,if_true],?_,Mem.get_set_same _ (by omega),⟨by rw [set_n]; omega,fun j hj=>?_⟩,by rw [set_n]; omega⟩
  ·have e:(out++[nextOf all out]).map (fun z=>AV.int .i64 z)=out.map (fun z=>AV.int .i64 z)++[.int .i64 (nextOf all out)]:=by simp
   rw [e,List.length_append,List.length_singleton]
   rcases ho2 with ⟨_,h2,_⟩ | ⟨b,h0,rfl,q1,q2⟩
   ·simp at h2
   ·exact .inr ⟨b,h0,rfl,(Mem.get_set_ne _ (by omega) (by omega) (by omega)).trans q1,q2⟩
  ·rw [Mem.get_set_ne _ (by omega) (by omega) (by omega),hold j (by omega),he.2 j hj]
end AG
