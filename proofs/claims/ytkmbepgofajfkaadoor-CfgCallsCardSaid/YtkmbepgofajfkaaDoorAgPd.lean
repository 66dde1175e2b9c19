/- What the functions that read images and paths compute, and the laws of that. -/
import Derived.Test.YtkmbepgofajfkaaDoorAgPc
namespace AG
open Go Go.Proofs.YtkmbepgofajfkaaDoor
set_option maxRecDepth 100000
set_option maxHeartbeats 4000000
def localsP (M:Img) (f:Nat):Int:=(M.funcs[f]?.map FF.locals).getD 0
def insP (M:Img) (f:Nat) (fr te:Int) (x:II):Bool:=
 if x.op=1 then decide ((f:Int)=M.main) else if x.op=4∨x.op=5 then decide (x.a < (M.init.length:Int)) else if x.op=6∨x.op=7 then decide (x.a+x.b≤(M.init.length:Int))
 else if x.op=8∨x.op=9 then decide (x.a < localsP M f) else if x.op=10∨x.op=11 then decide (x.a < (M.ports.length:Int)) else if x.op=15∨x.op=16 then decide (fr≤x.a)&&decide (x.a < te)
 else if x.op=17 then decide (x.a < (M.funcs.length:Int)) else if x.op=23∨x.op=24 then decide (x.a < (M.atoms.length:Int)) else true
theorem ins_run (N:Nat) (hN:1≤N) (m:Mem) (I:ImV) (M:Img) (hm:IM m I M) (f:Nat) (hf:f < M.funcs.length) (fr te:Int) (x:II) (hab:-9223372036854775808≤x.a+x.b∧x.a+x.b≤9223372036854775807):run A N 187 [.agg (ic I M),.int .i64 (f:Int),.int .i64 fr,.int .i64 te,.agg [.int .i64 x.op,.int .i64 x.a,.int .i64 x.b,.int .i64 x.c]] m=some (.bool (insP M f fr te x),m):=by
 obtain ⟨n,rfl⟩:∃ n,N=n+1:=⟨N - 1,by omega⟩
 have hP:=hm.pls
 obtain ⟨op,a,b,c⟩:=x
 dsimp only at hab ⊢
 rw [run_187]
 unfold fnEv a187 insP
 dsimp only
 by_cases o1:op=1
 ·subst o1
  simp only [KK,Nat.reduceEqDiff,Int.reduceEq,Nat.reduceAdd,Nat.reduceLeDiff,Nat.reduceLT,AOp.kd,kd_rm,a187_R1,a187_R2,a187_R3,a187_R4,a187_R5,a187_R6,a187_R7,hP,or_self]
 by_cases o4:op=4
 ·subst o4
  simp only [KK,Nat.reduceEqDiff,Int.reduceEq,Nat.reduceAdd,Nat.reduceLeDiff,Nat.reduceLT,AOp.kd,kd_rm,a187_R1,a187_R2,a187_R3,a187_R4,a187_R5,a187_R6,a187_R7,hP,true_or,or_self]
 by_cases o5:op=5
 ·subst o5
  simp only [KK,Nat.reduceEqDiff,Int.reduceEq,Nat.reduceAdd,Nat.reduceLeDiff,Nat.reduceLT,AOp.kd,kd_rm,a187_R1,a187_R2,a187_R3,a187_R4,a187_R5,a187_R6,a187_R7,hP,or_true,or_self]
 by_cases o6:op=6
 ·subst o6
  have a1:=add_ok a b hab.1 hab.2
  simp only [KK,Nat.reduceEqDiff,Int.reduceEq,Nat.reduceAdd,Nat.reduceLeDiff,Nat.reduceLT,AOp.kd,kd_rm,a187_R1,a187_R2,a187_R3,a187_R4,a187_R5,a187_R6,a187_R7,hP,true_or,or_self,a1]
 by_cases o7:op=7
 ·subst o7
  have a1:=add_ok a b hab.1 hab.2
  simp only [KK,Nat.reduceEqDiff,Int.reduceEq,Nat.reduceAdd,Nat.reduceLeDiff,Nat.reduceLT,AOp.kd,kd_rm,a187_R1,a187_R2,a187_R3,a187_R4,a187_R5,a187_R6,a187_R7,hP,or_true,or_self,a1]
 by_cases o8:op=8
 ·subst o8
  obtain ⟨y,hy⟩:∃ y,M.funcs[f]?=some y:=⟨_,List.getElem?_eq_getElem hf⟩
  obtain ⟨b2,o2,cs2,ow2,g1,g2,_,_,_,g3⟩:=hm.f.ff hy
  have hlo:localsP M f=y.locals:=by unfold localsP; rw [hy]; rfl
  simp only [KK,Nat.reduceEqDiff,Int.reduceEq,Nat.reduceAdd,Nat.reduceLeDiff,Nat.reduceLT,AOp.kd,kd_rm,logOk_nil',a187_R1,a187_R2,a187_R3,a187_R4,a187_R5,a187_R6,a187_R7,hP,true_or,or_self,g1,g2,g3,hlo]
 by_cases o9:op=9
 ·subst o9
  obtain ⟨y,hy⟩:∃ y,M.funcs[f]?=some y:=⟨_,List.getElem?_eq_getElem hf⟩
  obtain ⟨b2,o2,cs2,ow2,g1,g2,_,_,_,g3⟩:=hm.f.ff hy
  have hlo:localsP M f=y.locals:=by unfold localsP; rw [hy]; rfl
  simp only [KK,Nat.reduceEqDiff,Int.reduceEq,Nat.reduceAdd,Nat.reduceLeDiff,Nat.reduceLT,AOp.kd,kd_rm,logOk_nil',a187_R1,a187_R2,a187_R3,a187_R4,a187_R5,a187_R6,a187_R7,hP,or_true,or_self,g1,g2,g3,hlo]
 by_cases o10:op=10
 ·subst o10
  simp only [KK,Nat.reduceEqDiff,Int.reduceEq,Nat.reduceAdd,Nat.reduceLeDiff,Nat.reduceLT,AOp.kd,kd_rm,a187_R1,a187_R2,a187_R3,a187_R4,a187_R5,a187_R6,a187_R7,hP,true_or,or_self]
 by_cases o11:op=11
 ·subst o11
  simp only [KK,Nat.reduceEqDiff,Int.reduceEq,Nat.reduceAdd,Nat.reduceLeDiff,Nat.reduceLT,AOp.kd,kd_rm,a187_R1,a187_R2,a187_R3,a187_R4,a187_R5,a187_R6,a187_R7,hP,or_true,or_self]
 by_cases o15:op=15
 ·subst o15
  cases d1:decide (fr≤a)
  ·simp only [KK,Nat.reduceEqDiff,Int.reduceEq,Nat.reduceAdd,Nat.reduceLeDiff,Nat.reduceLT,AOp.kd,kd_rm,a187_R1,a187_R2,a187_R3,a187_R4,a187_R5,a187_R6,a187_R7,hP,true_or,or_self,d1]
  ·simp only [KK,Nat.reduceEqDiff,Int.reduceEq,Nat.reduceAdd,Nat.reduceLeDiff,Nat.reduceLT,AOp.kd,kd_rm,a187_R1,a187_R2,a187_R3,a187_R4,a187_R5,a187_R6,a187_R7,hP,true_or,or_self,d1]
 by_cases o16:op=16
 ·subst o16
  cases d1:decide (fr≤a)
  ·simp only [KK,Nat.reduceEqDiff,Int.reduceEq,Nat.reduceAdd,Nat.reduceLeDiff,Nat.reduceLT,AOp.kd,kd_rm,a187_R1,a187_R2,a187_R3,a187_R4,a187_R5,a187_R6,a187_R7,hP,or_true,or_self,d1]
  ·simp only [KK,Nat.reduceEqDiff,Int.reduceEq,Nat.reduceAdd,Nat.reduceLeDiff,Nat.reduceLT,AOp.kd,kd_rm,a187_R1,a187_R2,a187_R3,a187_R4,a187_R5,a187_R6,a187_R7,hP,or_true,or_self,d1]
 by_cases o17:op=17
 ·subst o17
  simp only [KK,Nat.reduceEqDiff,Int.reduceEq,Nat.reduceAdd,Nat.reduceLeDiff,Nat.reduceLT,AOp.kd,kd_rm,a187_R1,a187_R2,a187_R3,a187_R4,a187_R5,a187_R6,a187_R7,hP,or_self]
 by_cases o23:op=23
 ·subst o23
  simp only [KK,Nat.reduceEqDiff,Int.reduceEq,Nat.reduceAdd,Nat.reduceLeDiff,Nat.reduceLT,AOp.kd,kd_rm,a187_R1,a187_R2,a187_R3,a187_R4,a187_R5,a187_R6,a187_R7,hP,true_or,or_self]
 by_cases o24:op=24
 ·subst o24
  simp only [KK,Nat.reduceEqDiff,Int.reduceEq,Nat.reduceAdd,Nat.reduceLeDiff,Nat.reduceLT,AOp.kd,kd_rm,a187_R1,a187_R2,a187_R3,a187_R4,a187_R5,a187_R6,a187_R7,hP,or_true,or_self]
 simp only [KK,Nat.reduceEqDiff,Nat.reduceAdd,Nat.reduceLeDiff,Nat.reduceLT,AOp.kd,kd_rm,a187_R1,a187_R2,a187_R3,a187_R4,a187_R5,a187_R6,a187_R7,hP,o1,o4,o5,o6,o7,o8,o9,o10,o11,o15,o16,o17,o23,o24,or_self]
theorem bnds_ft {n k fr te:Nat} (h1:fr≤te) (h2:te≤k):bndsEv n k (some (.int .i64 (fr:Int))) (some (.int .i64 (te:Int))) none=some (fr,te,k):=by
 simp only [bndsEv,obnd,bndEv]
 rw [if_pos (by omega)]
 simp only [Int.toNat_natCast]
 rw [if_pos (by omega)]
theorem RS.sub {α:Type} {g:α→List AV} {c:Nat} {m:Mem} {v:AV} {l:List α} (hv:RS g c m v l) (hc:CapS v c) {fr te:Nat} (h1:fr < te) (h2:te≤l.length):
  ∃ v',(∀ s,slcR c v (some (.int .i64 (fr:Int))) (some (.int .i64 (te:Int))) none s=some (v',s))∧RS g c m v' ((l.drop fr).take (te - fr)):=by
 rcases hv with ⟨rfl,rfl⟩ | ⟨b,o,cap,e,rfl,h⟩
 ·simp at h2; omega
 have hlen:((l.drop fr).take (te - fr)).length=te - fr:=by rw [List.length_take,List.length_drop]; omega
 have hel:∀ (i:Nat) (x:α),((l.drop fr).take (te - fr))[i]?=some x→∃ cs own,m.get b=some (.cells cs own)∧cellsAt cs (o+fr*c+i*c) c=some (g x):=by
  intro i x hx
  have hi:i < te - fr:=by
   have:=(List.getElem?_eq_some_iff.1 hx).1
   omega
  rw [List.getElem?_take,if_pos hi,List.getElem?_drop] at hx
  obtain ⟨cs,ow,e1,e2⟩:=h (fr+i) x hx
  exact ⟨cs,ow,e1,by rw [Nat.add_mul,←Nat.add_assoc] at e2; exact e2⟩
 rcases hc with hc | ⟨b',o',n',cap',e',hv,hc⟩
 ·cases hc
 cases hv
 rcases hc with ⟨k,rfl,hk⟩ | ⟨rfl,rfl,hpos⟩
 ·refine ⟨.slice b (if k=fr then o else o+fr*c) (te - fr) (some (k - fr)) e,fun s=>?_,.inr ⟨b,o+fr*c,some (k - fr),e,?_,hel⟩⟩
  ·unfold slcR
   simp only [bnds_ft (n:=l.length) (k:=k) (by omega:fr≤te) (by omega)]
  ·rw [if_neg (by omega),hlen]
 ·refine ⟨.slice b (o+fr*e) (te - fr) none e,fun s=>?_,.inr ⟨b,o+fr*e,none,e,by rw [hlen],hel⟩⟩
  unfold slcR
  simp only [bnds_ft (n:=l.length) (k:=l.length) (by omega:fr≤te) (by omega)]
  rw [if_pos (by simp only [hpos,and_true]; omega)]
theorem RS.ii {m:Mem} {v:AV} {l:List II} (hv:RS II.cs 4 m v l) {i:Nat} {x:II} (hx:l[i]?=some x):∃ b o cs ow,(∀ s,elemR 4 v (.int .i64 (i:Int)) s=some (.ptr b o,s))∧m.get b=some (.cells cs ow)∧cellsAt cs o 4=some [.int .i64 x.op,.int .i64 x.a,.int .i64 x.b,.int .i64 x.c]∧cellsAt cs (o+0) 1=some [.int .i64 x.op]:=by
 obtain ⟨b,o,cs,ow,h1,h2,h3⟩:=hv.at hx
 exact ⟨b,o,cs,ow,h1,h2,h3,cells_sub h3 rfl⟩
def codeP (M:Img) (f:Nat) (fr te:Int) (_:Nat) (x:II):Bool:=codeOk x.op x.a x.b x.c&&insP M f fr te x
theorem fits_small {w n:Int} (h:fitsI w n=true):0≤n∧n≤4294967295:=by
 unfold fitsI at h
 split at h
 ·simp at h; omega
 split at h
 ·simp at h; omega
 split at h
 ·simp at h; omega
 split at h
 ·simp at h; omega
 split at h
 ·simp at h; omega
 split at h
 ·simp at h; omega
 split at h
 ·simp at h; omega
 split at h
 ·simp at h; omega
 ·simp at h; omega
theorem codeOk_small {op a b c:Int} (h:codeOk op a b c=true):(0≤a∧a≤4294967295)∧(0≤b∧b≤4294967295)∧(0≤c∧c≤4294967295):=by
 unfold codeOk at h
 simp only [Bool.and_eq_true] at h
 exact ⟨fits_small h.2.2.1,fits_small h.2.2.2.1,fits_small h.2.2.2.2⟩
theorem code_body (m:Mem) (hT:Tab m) (I:ImV) (M:Img) (hm:IM m I M) (f:Nat) (hf:f < M.funcs.length) (fr te:Int) (v:AV) (l:List II) (hv:RS II.cs 4 m v l) (hl:l.length≤100000) (N i:Nat) (x:II) (hN:4≤N) (hx:l[i]?=some x) (T:List (Nat×AV)) (L:List (Nat×List AV)) (hk:keepT [1,3,4,5,12,13,27,28,29] [1] T=[(1,.loc 1 0),(3,.int .i64 (f:Int)),(4,.int .i64 fr),(5,.int .i64 te),(12,.int .i64 (M.funcs.length:Int)),(13,.int .i64 (f:Int)),(27,v),(28,.int .i64 (l.length:Int)),(29,.int .i64 (i:Int))]) (hL:lookL L 1=some (ic I M)) (again:AC→St→Option (Ex×St)):
  (codeP M f fr te i x=true∧∃ T' L',codeEv (run A N) again a183_B1 ⟨65,T,L,m⟩=some (.norm,⟨65,T',L',m⟩)∧keepT [1,3,4,5,12,13,27,28,29] [1] T'=[(1,.loc 1 0),(3,.int .i64 (f:Int)),(4,.int .i64 fr),(5,.int .i64 te),(12,.int .i64 (M.funcs.length:Int)),(13,.int .i64 (f:Int)),(27,v),(28,.int .i64 (l.length:Int)),(29,.int .i64 ((i+1:Nat):Int))]∧lookL L' 1=some (ic I M))∨(codeP M f fr te i x=false∧∃ T' L',codeEv (run A N) again a183_B1 ⟨65,T,L,m⟩=some (.ret,⟨65,T',L',m⟩)∧look T' 2=.int .i64 2):=by
 have hP:=hm.pls
 obtain ⟨v1,v2,v3,v4⟩:=hv.plain
 have hlt:=(List.getElem?_eq_some_iff.1 hx).1
 have h':(i:Int) < (l.length:Int):=by omega
 obtain ⟨b,o,cs,ow,e1,e2,e3,_⟩:=hv.ii hx
 have a1:=add_i i (by omega)
 have hc:=code_call N hN x.op x.a x.b x.c m hT
 unfold a183_B1
 cases hk0:codeOk x.op x.a x.b x.c
 ·rw [hk0] at hc
  simp only [Bool.false_eq_true,if_false] at hc
  exact .inr ⟨by simp only [codeP,hk0,Bool.false_and],_,_,by simp only [KK,Nat.reduceEqDiff,Int.reduceEq,Nat.reduceAdd,Nat.reduceLeDiff,Nat.reduceLT,a183_R3,hk,hL,v1,h',e1,e2,e3,hc]; rfl,by simp only [look_set,if_true]⟩
 ·rw [hk0] at hc
  simp only [if_true] at hc
  have hs:=codeOk_small hk0
  have hi:=ins_run N (by omega) m I M hm f hf fr te x (by omega)
  cases hp:insP M f fr te x
  ·rw [hp] at hi
   exact .inr ⟨by simp only [codeP,hk0,hp,Bool.true_and],_,_,by simp only [KK,Nat.reduceEqDiff,Nat.reduceAdd,Nat.reduceLeDiff,Nat.reduceLT,a183_R3,hk,hL,v1,h',e1,e2,e3,hc,hi]; rfl,by simp only [look_set,if_true]⟩
  ·rw [hp] at hi
   exact .inl ⟨by simp only [codeP,hk0,hp,Bool.true_and],_,_,by simp only [KK,Nat.reduceEqDiff,Nat.reduceAdd,Nat.reduceLeDiff,Nat.reduceLT,a183_R3,hk,hL,v1,h',e1,e2,e3,a1,hc,hi]; rfl,by simp only [keepT,List.map,look_set,look_cons,in_int,in_loc,Nat.reduceEqDiff,if_true,if_false,List.contains_cons,List.contains_nil,beq_self_eq_true,Bool.or_false,v1],by simp only [lookL_cons,if_true]⟩
theorem code_loop (m:Mem) (hT:Tab m) (I:ImV) (M:Img) (hm:IM m I M) (f:Nat) (hf:f < M.funcs.length) (fr te:Int) (v:AV) (l:List II) (hv:RS II.cs 4 m v l) (hl:l.length≤100000) (N:Nat) (T:List (Nat×AV)) (L:List (Nat×List AV)) (hN:l.length+4≤N) (hk:keepT [1,3,4,5,12,13,27,28,29] [1] T=[(1,.loc 1 0),(3,.int .i64 (f:Int)),(4,.int .i64 fr),(5,.int .i64 te),(12,.int .i64 (M.funcs.length:Int)),(13,.int .i64 (f:Int)),(27,v),(28,.int .i64 (l.length:Int)),(29,.int .i64 0)]) (hL:lookL L 1=some (ic I M)) {q:Option (Ex×St)} (hq:codeEv (run A N) (ev A N).2 a183_L1 ⟨65,T,L,m⟩=q):
  ∃ T' L',(allI (codeP M f fr te) l 0=true∧q=some (.exit 2,⟨65,T',L',m⟩)∧keepT [1,5,12,13] [1] T'=[(1,.loc 1 0),(5,.int .i64 te),(12,.int .i64 (M.funcs.length:Int)),(13,.int .i64 (f:Int))]∧lookL L' 1=some (ic I M))∨(allI (codeP M f fr te) l 0=false∧q=some (.ret,⟨65,T',L',m⟩)∧look T' 2=.int .i64 2):=by
 have hP:=hm.pls
 obtain ⟨v1,v2,v3,v4⟩:=hv.plain
 have h:=scan0 (A:=A) a183_L1 a183_B1 a183_L1_step (fun i (_:Unit) s=>∃ T L,s=⟨65,T,L,m⟩∧keepT [1,3,4,5,12,13,27,28,29] [1] T=[(1,.loc 1 0),(3,.int .i64 (f:Int)),(4,.int .i64 fr),(5,.int .i64 te),(12,.int .i64 (M.funcs.length:Int)),(13,.int .i64 (f:Int)),(27,v),(28,.int .i64 (l.length:Int)),(29,.int .i64 (i:Int))]∧lookL L 1=some (ic I M)) (fun _ s=>∃ T' L',s=⟨65,T',L',m⟩∧keepT [1,5,12,13] [1] T'=[(1,.loc 1 0),(5,.int .i64 te),(12,.int .i64 (M.funcs.length:Int)),(13,.int .i64 (f:Int))]∧lookL L' 1=some (ic I M)) (fun (_:Unit) s=>∃ T L,s=⟨65,T,L,m⟩∧look T 2=.int .i64 2) 2 4 (allS (codeP M f fr te)) l
  (fun N b s hN ⟨T,L,hs,hk,hL⟩=>by
   subst hs
   have h':¬(l.length:Int) < (l.length:Int):=by omega
   unfold a183_B1
   exact ⟨_,by simp only [KK,Nat.reduceEqDiff,Nat.reduceLT,hk,hL,h']; rfl,_,_,rfl,by simp only [keepT,List.map,look_set,look_cons,in_int,in_loc,Nat.reduceEqDiff,if_true,if_false,List.contains_cons,List.contains_nil,beq_self_eq_true,Bool.or_false],by simp only [lookL_cons,if_true]⟩)
  (fun N i x b s hN hx ⟨T,L,hs,hk,hL⟩=>by
   subst hs
   unfold allS
   rcases code_body m hT I M hm f hf fr te v l hv hl N i x hN hx T L hk hL (ev A N).2 with ⟨h1,T',L',e1,e2,e3⟩ | ⟨h1,T',L',e1,e2⟩
   ·rw [if_pos h1]
    exact ⟨_,e1,_,_,rfl,e2,e3⟩
   ·rw [if_neg (by rw [h1]; simp)]
    exact ⟨_,e1,_,_,rfl,e2⟩)
  N () ⟨65,T,L,m⟩ (by omega) ⟨T,L,rfl,hk,hL⟩ hq
 rw [fold_all] at h
 cases hall:allI (codeP M f fr te) l 0
 ·rw [hall] at h
  obtain ⟨s',e,T',L',rfl,h2⟩:=h
  exact ⟨T',L',.inr ⟨rfl,e,h2⟩⟩
 ·rw [hall] at h
  obtain ⟨s',e,T',L',rfl,h2,h3⟩:=h
  exact ⟨T',L',.inl ⟨rfl,e,h2,h3⟩⟩
def segP (M:Img) (f:Nat):List II:=(M.code.drop (fromP M f).toNat).take ((toP M f).toNat - (fromP M f).toNat)
def lastP (M:Img) (f:Nat):Bool:=match M.code[(toP M f).toNat - 1]? with | some x=>decide (x.op=1)||(decide (x.op=15)||decide (x.op=18)) | none=>false
def bodyP (M:Img) (f:Nat) (_:FF):Bool:=allI (codeP M f (fromP M f) (toP M f)) (segP M f) 0&&lastP M f
def codesP (M:Img):Bool:=allI (bodyP M) M.funcs 0
def Spans (M:Img):Prop:=∀ f,f < M.funcs.length→0≤fromP M f∧fromP M f < toP M f∧toP M f≤M.code.length
theorem funcs_spans {M:Img} (h:funcsP M=true):Spans M:=by
 intro f hf
 unfold funcsP at h
 rw [Bool.and_eq_true] at h
 obtain ⟨x,hx⟩:∃ x,M.funcs[f]?=some x:=⟨_,List.getElem?_eq_getElem hf⟩
 have:=(allI_iff _ _ _).1 h.2 f x hx
 simp only [funcP,Nat.zero_add,Bool.and_eq_true,Bool.not_eq_true',decide_eq_false_iff_not] at this
 omega
theorem codes_body (m:Mem) (hT:Tab m) (I:ImV) (M:Img) (hm:IM m I M) (hcs:CapS I.c 4) (hsp:Spans M) (hl:M.code.length≤100000) (hlf:M.funcs.length≤1000) (N f:Nat) (x:FF) (hN:M.code.length+4≤N) (hx:M.funcs[f]?=some x) (T:List (Nat×AV)) (L:List (Nat×List AV)) (hk:keepT [1,12,13] [1] T=[(1,.loc 1 0),(12,.int .i64 (M.funcs.length:Int)),(13,.int .i64 (f:Int))]) (hL:lookL L 1=some (ic I M)):
  (bodyP M f x=true∧∃ T' L',codeEv (run A N) (ev A N).2 a183_B2 ⟨65,T,L,m⟩=some (.norm,⟨65,T',L',m⟩)∧keepT [1,12,13] [1] T'=[(1,.loc 1 0),(12,.int .i64 (M.funcs.length:Int)),(13,.int .i64 ((f+1:Nat):Int))]∧lookL L' 1=some (ic I M))∨(bodyP M f x=false∧∃ T' L',codeEv (run A N) (ev A N).2 a183_B2 ⟨65,T,L,m⟩=some (.ret,⟨65,T',L',m⟩)∧look T' 2=.int .i64 2):=by
 have hP:=hm.pls
 have lv:=hm.v.lenR
 have hlt:=(List.getElem?_eq_some_iff.1 hx).1
 have h':(f:Int) < (M.funcs.length:Int):=by omega
 have a1:=add_i f (by omega)
 have hb:=bounds_run N (by omega) m I M hm f hlt (by omega)
 have hs:=hsp f hlt
 obtain ⟨fr,hfr⟩:∃ k:Nat,fromP M f=(k:Int):=⟨(fromP M f).toNat,by omega⟩
 obtain ⟨te,hte⟩:∃ k:Nat,toP M f=(k:Int):=⟨(toP M f).toNat,by omega⟩
 unfold bodyP segP lastP
 rw [hfr,hte] at hb hs ⊢
 rw [Int.toNat_natCast,Int.toNat_natCast]
 obtain ⟨v',hsl,hv'⟩:=hm.c.sub hcs (fr:=fr) (te:=te) (by omega) (by omega)
 have hlen:((M.code.drop fr).take (te - fr)).length≤M.code.length:=by rw [List.length_take,List.length_drop]; omega
 obtain ⟨v1,v2,v3,v4⟩:=hv'.plain
 have lv:=hv'.lenR
 have hsb:binEv .sub (.int .i64 (te:Int)) (.int .i64 1)=some (.int .i64 ((te - 1:Nat):Int)):=by
  have e:((te - 1:Nat):Int)=(te:Int) - 1:=by omega
  rw [e]
  simp only [binEv,if_true,intBin,IntKind.wrap,IntKind.bits]
  simp [IntKind.signed]
  omega
 obtain ⟨y,hy⟩:∃ y,M.code[te - 1]?=some y:=⟨_,List.getElem?_eq_getElem (by omega)⟩
 obtain ⟨b2,o2,cs2,ow2,g1,g2,_,g3⟩:=hm.c.ii hy
 rw [hy]
 dsimp only
 unfold a183_B2
 simp only [KK,Nat.reduceEqDiff,Nat.reduceAdd,Nat.reduceLeDiff,Nat.reduceLT,opE_slcL,Option.map_none,a183_R1,a183_R2,a183_R4,a183_R5,hk,hL,h',hb,hsl,lv]
 generalize hq:codeEv (run A N) (ev A N).2 a183_L1 _=q
 obtain ⟨T1,L1,⟨h1,rfl,h2,h3⟩ | ⟨h1,rfl,h2⟩⟩:=code_loop m hT I M hm f hlt (fr:Int) (te:Int) v' _ hv' (by omega) N _ _ (by omega) (by simp only [keepT,List.map,look_set,look_cons,in_int,in_loc,Nat.reduceEqDiff,if_true,if_false,List.contains_cons,List.contains_nil,beq_self_eq_true,Bool.or_false,v1]) (by simp only [lookL_cons,if_true]) hq
 ·rw [h1,Bool.true_and]
  cases d1:decide (y.op=1)
  ·cases d2:decide (y.op=15)
   ·cases d3:decide (y.op=18)
    ·exact .inr ⟨rfl,_,_,by simp only [KK,Nat.reduceEqDiff,Nat.reduceAdd,Nat.reduceLeDiff,Nat.reduceLT,h2,h3,hsb,g1,g2,g3,d1,d2,d3]; rfl,by simp only [look_set,if_true]⟩
    ·exact .inl ⟨rfl,_,_,by simp only [KK,Nat.reduceEqDiff,Nat.reduceAdd,Nat.reduceLeDiff,Nat.reduceLT,h2,h3,hsb,g1,g2,g3,d1,d2,d3,a1]; rfl,by simp only [keepT,List.map,look_set,look_cons,in_int,in_loc,Nat.reduceEqDiff,if_true,if_false,List.contains_cons,List.contains_nil,beq_self_eq_true,Bool.or_false],by simp only [lookL_cons,if_true]⟩
   ·exact .inl ⟨rfl,_,_,by simp only [KK,Nat.reduceEqDiff,Nat.reduceAdd,Nat.reduceLeDiff,Nat.reduceLT,h2,h3,hsb,g1,g2,g3,d1,d2,a1]; rfl,by simp only [keepT,List.map,look_set,look_cons,in_int,in_loc,Nat.reduceEqDiff,if_true,if_false,List.contains_cons,List.contains_nil,beq_self_eq_true,Bool.or_false],by simp only [lookL_cons,if_true]⟩
  ·exact .inl ⟨rfl,_,_,by simp only [KK,Nat.reduceEqDiff,Nat.reduceAdd,Nat.reduceLeDiff,Nat.reduceLT,h2,h3,hsb,g1,g2,g3,d1,a1]; rfl,by simp only [keepT,List.map,look_set,look_cons,in_int,in_loc,Nat.reduceEqDiff,if_true,if_false,List.contains_cons,List.contains_nil,beq_self_eq_true,Bool.or_false],by simp only [lookL_cons,if_true]⟩
 ·rw [h1,Bool.false_and]
  exact .inr ⟨rfl,_,_,rfl,h2⟩
theorem codes_run (N:Nat) (m:Mem) (hT:Tab m) (I:ImV) (M:Img) (hm:IM m I M) (hcs:CapS I.c 4) (hsp:Spans M) (hl:M.code.length≤100000) (hlf:M.funcs.length≤1000) (hN:M.code.length+M.funcs.length+6≤N):run A N 183 [.agg (ic I M)] m=some (.int .i64 (if codesP M=true then 0 else 2),m):=by
 obtain ⟨n,rfl⟩:∃ n,N=n+1:=⟨N - 1,by omega⟩
 have hP:=hm.pls
 rw [run_183]
 unfold fnEv a183 codesP
 simp only [KK,Nat.reduceEqDiff,Nat.reduceAdd,Nat.reduceLeDiff,Nat.reduceLT,hP]
 generalize hq:codeEv (run A n) (ev A n).2 a183_L2 _=q
 have h:=scan0 (A:=A) a183_L2 a183_B2 a183_L2_step (fun i (_:Unit) s=>∃ T L,s=⟨65,T,L,m⟩∧keepT [1,12,13] [1] T=[(1,.loc 1 0),(12,.int .i64 (M.funcs.length:Int)),(13,.int .i64 (i:Int))]∧lookL L 1=some (ic I M)) (fun _ s=>∃ T L,s=⟨65,T,L,m⟩) (fun (_:Unit) s=>∃ T L,s=⟨65,T,L,m⟩∧look T 2=.int .i64 2) 0 (M.code.length+4) (allS (bodyP M)) M.funcs
  (fun N b s hN ⟨T,L,hs,hk,hL⟩=>by
   subst hs
   have h':¬(M.funcs.length:Int) < (M.funcs.length:Int):=by omega
   unfold a183_B2
   exact ⟨_,by simp only [KK,Nat.reduceEqDiff,Nat.reduceLT,hk,hL,h']; rfl,_,_,rfl⟩)
  (fun N i x b s hN hx ⟨T,L,hs,hk,hL⟩=>by
   subst hs
   unfold allS
   rcases codes_body m hT I M hm hcs hsp hl hlf N i x hN hx T L hk hL with ⟨h1,T',L',e1,e2,e3⟩ | ⟨h1,T',L',e1,e2⟩
   ·rw [if_pos h1]
    exact ⟨_,e1,_,_,rfl,e2,e3⟩
   ·rw [if_neg (by rw [h1]; simp)]
    exact ⟨_,e1,_,_,rfl,e2⟩)
  n () _ (by omega) ⟨_,_,rfl,by simp only [keepT,List.map,look_set,look_cons,in_int,in_loc,Nat.reduceEqDiff,if_true,if_false,List.contains_cons,List.contains_nil,beq_self_eq_true,Bool.or_false]; rfl,by simp only [lookL_cons,if_true]⟩ hq
 rw [fold_all] at h
 cases hall:allI (bodyP M) M.funcs 0
 ·rw [hall] at h
  obtain ⟨s',rfl,T',L',rfl,h2⟩:=h
  simp only [loc_int,if_false,Bool.false_eq_true,h2,Bool.false_eq_true]
 ·rw [hall] at h
  obtain ⟨s',rfl,T',L',rfl⟩:=h
  simp only [look_set,loc_int,Nat.reduceLT,if_true,if_false,Bool.false_eq_true]
theorem RS.i1 {m:Mem} {v:AV} {l:List Int} (hv:RS (fun x=>[AV.int .i64 x]) 1 m v l) {i:Nat} {x:Int} (hx:l[i]?=some x):∃ b o cs ow,(∀ s,elemR 1 v (.int .i64 (i:Int)) s=some (.ptr b o,s))∧m.get b=some (.cells cs ow)∧cellsAt cs o 1=some [.int .i64 x]:=hv.at hx
def cellP (n:Int) (l:List Int) (i:Nat) (c:Int):Bool:=!decide (c < 0)&&(!decide (n≤c)&&!(decide (0 < i)&&decide (c≤(l[i - 1]?).getD 0)))
def atomP (n:Int) (_:Nat) (l:List Int):Bool:=allI (cellP n l) l 0
def atomsP (M:Img):Bool:=allI (atomP (M.init.length:Int)) M.atoms 0
theorem cell_body (m:Mem) (I:ImV) (M:Img) (hm:IM m I M) (w:AV) (l:List Int) (hw:RE m w l) (hl:l.length≤100000) (N i j:Nat) (x:Int) (hx:l[i]?=some x) (T:List (Nat×AV)) (L:List (Nat×List AV)) (hk:keepT [1,4,9,10,11,15,16,17] [1] T=[(1,.loc 1 0),(4,w),(9,I.a),(10,.int .i64 (M.atoms.length:Int)),(11,.int .i64 (j:Int)),(15,w),(16,.int .i64 (l.length:Int)),(17,.int .i64 (i:Int))]) (hL:lookL L 1=some (ic I M)) (again:AC→St→Option (Ex×St)):
  (cellP (M.init.length:Int) l i x=true∧∃ T' L',codeEv (run A N) again a184_B1 ⟨47,T,L,m⟩=some (.norm,⟨47,T',L',m⟩)∧keepT [1,4,9,10,11,15,16,17] [1] T'=[(1,.loc 1 0),(4,w),(9,I.a),(10,.int .i64 (M.atoms.length:Int)),(11,.int .i64 (j:Int)),(15,w),(16,.int .i64 (l.length:Int)),(17,.int .i64 ((i+1:Nat):Int))]∧lookL L' 1=some (ic I M))∨(cellP (M.init.length:Int) l i x=false∧∃ T' L',codeEv (run A N) again a184_B1 ⟨47,T,L,m⟩=some (.ret,⟨47,T',L',m⟩)∧look T' 2=.int .i64 2):=by
 have hP:=hm.pls
 obtain ⟨w1,w2,w3,w4⟩:=hw.plain
 have hlt:=(List.getElem?_eq_some_iff.1 hx).1
 have h':(i:Int) < (l.length:Int):=by omega
 obtain ⟨b,o,cs,ow,e1,e2,e3⟩:=hw.i1 hx
 have a1:=add_i i (by omega)
 unfold a184_B1
 cases d1:decide (x < 0)
 rotate_left
 ·exact .inr ⟨by simp only [cellP,d1,Bool.not_true,Bool.false_and],_,_,by simp only [KK,Nat.reduceEqDiff,Nat.reduceLT,a184_R1,hk,hL,hP,w1,h',e1,e2,e3,d1]; rfl,by simp only [look_set,if_true]⟩
 cases d2:decide ((M.init.length:Int)≤x)
 rotate_left
 ·exact .inr ⟨by simp only [cellP,d1,d2,Bool.not_false,Bool.not_true,Bool.false_and,Bool.and_false],_,_,by simp only [KK,Nat.reduceEqDiff,Nat.reduceAdd,Nat.reduceLeDiff,Nat.reduceLT,a184_R1,hk,hL,hP,w1,h',e1,e2,e3,d1,d2]; rfl,by simp only [look_set,if_true]⟩
 by_cases hi0:0 < i
 ·obtain ⟨y,hy⟩:∃ y,l[i - 1]?=some y:=⟨_,List.getElem?_eq_getElem (by omega)⟩
  obtain ⟨b2,o2,cs2,ow2,g1,g2,g3⟩:=hw.i1 hy
  have hsb:binEv .sub (.int .i64 (i:Int)) (.int .i64 1)=some (.int .i64 ((i - 1:Nat):Int)):=by
   have e:((i - 1:Nat):Int)=(i:Int) - 1:=by omega
   rw [e]
   simp only [binEv,if_true,intBin,IntKind.wrap,IntKind.bits]
   simp [IntKind.signed]
   omega
  have hgd:(l[i - 1]?).getD 0=y:=by rw [hy]; rfl
  have hz:decide (0 < i)=true:=decide_eq_true hi0
  have hz':decide ((0:Int) < (i:Int))=true:=decide_eq_true (by omega)
  have hz2:(i:Int) > 0:=by omega
  cases d3:decide (x≤y)
  ·exact .inl ⟨by simp only [cellP,hgd,hz,d1,d2,d3,Bool.not_false,Bool.and_true,Bool.and_false],_,_,by simp only [KK,Nat.reduceEqDiff,Nat.reduceAdd,Nat.reduceLeDiff,Nat.reduceLT,a184_R1,hk,hL,hP,w1,h',e1,e2,e3,a1,d1,d2,d3,hsb,g1,g2,g3,hz2]; rfl,by simp only [keepT,List.map,look_set,look_cons,in_int,in_loc,Nat.reduceEqDiff,if_true,if_false,List.contains_cons,List.contains_nil,beq_self_eq_true,Bool.or_false,hP,w1],by simp only [lookL_cons,if_true]⟩
  ·exact .inr ⟨by simp only [cellP,hgd,hz,d1,d2,d3,Bool.not_false,Bool.not_true,Bool.and_true,Bool.and_false],_,_,by simp only [KK,Nat.reduceEqDiff,Nat.reduceAdd,Nat.reduceLeDiff,Nat.reduceLT,a184_R1,hk,hL,hP,w1,h',e1,e2,e3,d1,d2,d3,hsb,g1,g2,g3,hz2]; rfl,by simp only [look_set,if_true]⟩
 ·have hz:decide (0 < i)=false:=decide_eq_false hi0
  have hz2:¬(i:Int) > 0:=by omega
  exact .inl ⟨by simp only [cellP,hz,d1,d2,Bool.not_false,Bool.and_true,Bool.false_and],_,_,by simp only [KK,Nat.reduceEqDiff,Nat.reduceAdd,Nat.reduceLeDiff,Nat.reduceLT,a184_R1,hk,hL,hP,w1,h',e1,e2,e3,a1,d1,d2,hz2]; rfl,by simp only [keepT,List.map,look_set,look_cons,in_int,in_loc,Nat.reduceEqDiff,if_true,if_false,List.contains_cons,List.contains_nil,beq_self_eq_true,Bool.or_false,hP,w1],by simp only [lookL_cons,if_true]⟩
theorem cell_loop (m:Mem) (I:ImV) (M:Img) (hm:IM m I M) (w:AV) (l:List Int) (hw:RE m w l) (hl:l.length≤100000) (j N:Nat) (T:List (Nat×AV)) (L:List (Nat×List AV)) (hN:l.length+1≤N) (hk:keepT [1,4,9,10,11,15,16,17] [1] T=[(1,.loc 1 0),(4,w),(9,I.a),(10,.int .i64 (M.atoms.length:Int)),(11,.int .i64 (j:Int)),(15,w),(16,.int .i64 (l.length:Int)),(17,.int .i64 0)]) (hL:lookL L 1=some (ic I M)) {q:Option (Ex×St)} (hq:codeEv (run A N) (ev A N).2 a184_L1 ⟨47,T,L,m⟩=q):
  ∃ T' L',(atomP (M.init.length:Int) j l=true∧q=some (.exit 2,⟨47,T',L',m⟩)∧keepT [1,9,10,11] [1] T'=[(1,.loc 1 0),(9,I.a),(10,.int .i64 (M.atoms.length:Int)),(11,.int .i64 (j:Int))]∧lookL L' 1=some (ic I M))∨(atomP (M.init.length:Int) j l=false∧q=some (.ret,⟨47,T',L',m⟩)∧look T' 2=.int .i64 2):=by
 have hP:=hm.pls
 obtain ⟨w1,w2,w3,w4⟩:=hw.plain
 have h:=scan0 (A:=A) a184_L1 a184_B1 a184_L1_step (fun i (_:Unit) s=>∃ T L,s=⟨47,T,L,m⟩∧keepT [1,4,9,10,11,15,16,17] [1] T=[(1,.loc 1 0),(4,w),(9,I.a),(10,.int .i64 (M.atoms.length:Int)),(11,.int .i64 (j:Int)),(15,w),(16,.int .i64 (l.length:Int)),(17,.int .i64 (i:Int))]∧lookL L 1=some (ic I M)) (fun _ s=>∃ T' L',s=⟨47,T',L',m⟩∧keepT [1,9,10,11] [1] T'=[(1,.loc 1 0),(9,I.a),(10,.int .i64 (M.atoms.length:Int)),(11,.int .i64 (j:Int))]∧lookL L' 1=some (ic I M)) (fun (_:Unit) s=>∃ T L,s=⟨47,T,L,m⟩∧look T 2=.int .i64 2) 2 1 (allS (cellP (M.init.length:Int) l)) l
  (fun N b s hN ⟨T,L,hs,hk,hL⟩=>by
   subst hs
   have h':¬(l.length:Int) < (l.length:Int):=by omega
   unfold a184_B1
   exact ⟨_,by simp only [KK,Nat.reduceEqDiff,Nat.reduceLT,hk,hL,h']; rfl,_,_,rfl,by simp only [keepT,List.map,look_set,look_cons,in_int,in_loc,Nat.reduceEqDiff,if_true,if_false,List.contains_cons,List.contains_nil,beq_self_eq_true,Bool.or_false,hP],by simp only [lookL_cons,if_true]⟩)
  (fun N i x b s hN hx ⟨T,L,hs,hk,hL⟩=>by
   subst hs
   unfold allS
   rcases cell_body m I M hm w l hw hl N i j x hx T L hk hL (ev A N).2 with ⟨h1,T',L',e1,e2,e3⟩ | ⟨h1,T',L',e1,e2⟩
   ·rw [if_pos h1]
    exact ⟨_,e1,_,_,rfl,e2,e3⟩
   ·rw [if_neg (by rw [h1]; simp)]
    exact ⟨_,e1,_,_,rfl,e2⟩)
  N () ⟨47,T,L,m⟩ (by omega) ⟨T,L,rfl,hk,hL⟩ hq
 rw [fold_all] at h
 unfold atomP
 cases hall:allI (cellP (M.init.length:Int) l) l 0
 ·rw [hall] at h
  obtain ⟨s',e,T',L',rfl,h2⟩:=h
  exact ⟨T',L',.inr ⟨rfl,e,h2⟩⟩
 ·rw [hall] at h
  obtain ⟨s',e,T',L',rfl,h2,h3⟩:=h
  exact ⟨T',L',.inl ⟨rfl,e,h2,h3⟩⟩
theorem atoms_body (m:Mem) (I:ImV) (M:Img) (hm:IM m I M) (ha:M.atoms.length≤1000) (hal:∀ l∈M.atoms,l.length≤4096) (N j:Nat) (l:List Int) (hN:4100≤N) (hx:M.atoms[j]?=some l) (T:List (Nat×AV)) (L:List (Nat×List AV)) (hk:keepT [1,9,10,11] [1] T=[(1,.loc 1 0),(9,I.a),(10,.int .i64 (M.atoms.length:Int)),(11,.int .i64 (j:Int))]) (hL:lookL L 1=some (ic I M)):
  (atomP (M.init.length:Int) j l=true∧∃ T' L',codeEv (run A N) (ev A N).2 a184_B2 ⟨47,T,L,m⟩=some (.norm,⟨47,T',L',m⟩)∧keepT [1,9,10,11] [1] T'=[(1,.loc 1 0),(9,I.a),(10,.int .i64 (M.atoms.length:Int)),(11,.int .i64 ((j+1:Nat):Int))]∧lookL L' 1=some (ic I M))∨(atomP (M.init.length:Int) j l=false∧∃ T' L',codeEv (run A N) (ev A N).2 a184_B2 ⟨47,T,L,m⟩=some (.ret,⟨47,T',L',m⟩)∧look T' 2=.int .i64 2):=by
 have hP:=hm.pls
 have hlt:=(List.getElem?_eq_some_iff.1 hx).1
 have h':(j:Int) < (M.atoms.length:Int):=by omega
 have a1:=add_i j (by omega)
 obtain ⟨b,o,cs,ow,w,e1,e2,e3,hw⟩:=hm.a.at hx
 obtain ⟨w1,w2,w3,w4⟩:=hw.plain
 have lw:=hw.lenR
 have hll:=hal l (List.mem_of_getElem? hx)
 unfold a184_B2
 simp only [KK,Nat.reduceEqDiff,Nat.reduceLT,hk,hL,hP,h',e1,e2,e3,w1,lw]
 generalize hq:codeEv (run A N) (ev A N).2 a184_L1 _=q
 obtain ⟨T1,L1,⟨h1,rfl,h2,h3⟩ | ⟨h1,rfl,h2⟩⟩:=cell_loop m I M hm w l hw (by omega) j N _ _ (by omega) (by simp only [keepT,List.map,look_set,look_cons,in_int,in_loc,Nat.reduceEqDiff,if_true,if_false,List.contains_cons,List.contains_nil,beq_self_eq_true,Bool.or_false,hP,w1]) (by simp only [lookL_cons,if_true]) hq
 ·exact .inl ⟨h1,_,_,by simp only [look_set,look_nil,look_cons,Option.map_some,Nat.reduceEqDiff,Nat.reduceLT,if_true,if_false,h2,h3,a1]; rfl,by simp only [keepT,List.map,look_set,look_cons,in_int,in_loc,Nat.reduceEqDiff,if_true,if_false,List.contains_cons,List.contains_nil,beq_self_eq_true,Bool.or_false,hP],by simp only [lookL_cons,if_true]⟩
 ·exact .inr ⟨h1,_,_,rfl,h2⟩
theorem atoms_run (N:Nat) (m:Mem) (I:ImV) (M:Img) (hm:IM m I M) (ha:M.atoms.length≤1000) (hal:∀ l∈M.atoms,l.length≤4096) (hN:4100+M.atoms.length+2≤N):run A N 184 [.agg (ic I M)] m=some (.int .i64 (if atomsP M=true then 0 else 2),m):=by
 obtain ⟨n,rfl⟩:∃ n,N=n+1:=⟨N - 1,by omega⟩
 have hP:=hm.pls
 rw [run_184]
 unfold fnEv a184 atomsP
 simp only [KK,Nat.reduceEqDiff,Nat.reduceAdd,Nat.reduceLeDiff,Nat.reduceLT,hP]
 generalize hq:codeEv (run A n) (ev A n).2 a184_L2 _=q
 have h:=scan0 (A:=A) a184_L2 a184_B2 a184_L2_step (fun i (_:Unit) s=>∃ T L,s=⟨47,T,L,m⟩∧keepT [1,9,10,11] [1] T=[(1,.loc 1 0),(9,I.a),(10,.int .i64 (M.atoms.length:Int)),(11,.int .i64 (i:Int))]∧lookL L 1=some (ic I M)) (fun _ s=>∃ T L,s=⟨47,T,L,m⟩) (fun (_:Unit) s=>∃ T L,s=⟨47,T,L,m⟩∧look T 2=.int .i64 2) 0 4100 (allS (atomP (M.init.length:Int))) M.atoms
  (fun N b s hN ⟨T,L,hs,hk,hL⟩=>by
   subst hs
   have h':¬(M.atoms.length:Int) < (M.atoms.length:Int):=by omega
   unfold a184_B2
   exact ⟨_,by simp only [KK,Nat.reduceEqDiff,Nat.reduceLT,hk,hL,h']; rfl,_,_,rfl⟩)
  (fun N i x b s hN hx ⟨T,L,hs,hk,hL⟩=>by
   subst hs
   unfold allS
   rcases atoms_body m I M hm ha hal N i x hN hx T L hk hL with ⟨h1,T',L',e1,e2,e3⟩ | ⟨h1,T',L',e1,e2⟩
   ·rw [if_pos h1]
    exact ⟨_,e1,_,_,rfl,e2,e3⟩
   ·rw [if_neg (by rw [h1]; simp)]
    exact ⟨_,e1,_,_,rfl,e2⟩)
  n () _ (by omega) ⟨_,_,rfl,by simp only [keepT,List.map,look_set,look_cons,in_int,in_loc,Nat.reduceEqDiff,if_true,if_false,List.contains_cons,List.contains_nil,beq_self_eq_true,Bool.or_false,hP]; rfl,by simp only [lookL_cons,if_true]⟩ hq
 rw [fold_all] at h
 cases hall:allI (atomP (M.init.length:Int)) M.atoms 0
 ·rw [hall] at h
  obtain ⟨s',rfl,T',L',rfl,h2⟩:=h
  simp only [loc_int,if_false,Bool.false_eq_true,h2,Bool.false_eq_true]
 ·rw [hall] at h
  obtain ⟨s',rfl,T',L',rfl⟩:=h
  simp only [look_set,loc_int,Nat.reduceLT,if_true,if_false,Bool.false_eq_true]
theorem intsOf_map:∀ (zs:List Int),intsOf (zs.map fun z=>AV.int .i64 z)=some zs
 | []=>rfl
 | z::r=>by
  rw [List.map_cons]
  show (intsOf (r.map fun z=>AV.int .i64 z)).map (z::·)=_
  rw [intsOf_map r]; rfl
def sortZ (zs:List Int):List Int:=zs.mergeSort fun x y=>decide (x≤y)
theorem sort_at (n:Nat) {n0:Nat} {m:Mem} {v:AV} {zs:List Int} (h:OS 1 n0 m v (zs.map fun z=>AV.int .i64 z) zs.length) (hm:m.n≤2 ^ depth) (hz6:zs.length≤1000000):
  ∃ m',run A (n+1) 79 [v] m=some (.tup [],m')∧OS 1 n0 m' v ((sortZ zs).map fun z=>AV.int .i64 z) zs.length∧m'.n=m.n∧(∀ i,i < n0→m'.get i=m.get i):=by
 rw [run_79]
 unfold fnEv a79 primFn
 try dsimp only
 have hlen:(sortZ zs).length=zs.length:=by unfold sortZ; simp
 rcases h with ⟨rfl,h1,h2⟩ | ⟨b,h0,rfl,h1,h2⟩
 ·have:zs=[]:=List.length_eq_zero_iff.1 h2
  subst this
  exact ⟨m,rfl,.inl ⟨rfl,by unfold sortZ; simp,rfl⟩,rfl,fun _ _=>rfl⟩
 ·have hb:=Mem.get_lt h1
  by_cases hz:zs.length=0
  ·have:zs=[]:=List.length_eq_zero_iff.1 hz
   subst this
   exact ⟨m,rfl,.inr ⟨b,h0,rfl,by unfold sortZ; simpa using h1,by unfold sortZ; simp⟩,rfl,fun _ _=>rfl⟩
  ·have hc:cellsAt (zs.map fun z=>AV.int .i64 z) 0 zs.length=some (zs.map fun z=>AV.int .i64 z):=by
    unfold cellsAt
    rw [if_pos (by simp),List.drop_zero,List.take_of_length_le (by simp)]
   refine ⟨m.set b (.cells ((sortZ zs).map fun z=>AV.int .i64 z) true),?_,.inr ⟨b,h0,rfl,Mem.get_set_same _ hb,by simp [hlen]⟩,rfl,fun i hi=>Mem.get_set_ne _ hm hb (by omega)⟩
   unfold sortEv ownInts
   have hz7:¬1000000 < zs.length:=by omega
   simp only [hz,hz7,if_false,h1,hc,intsOf_map,Option.map_some]
   congr 3
   unfold splice sortZ
   simp
theorem compact_at (n:Nat) {n0:Nat} {m:Mem} {v:AV} {zs:List Int} (h:OS 1 n0 m v (zs.map fun z=>AV.int .i64 z) zs.length) (hm:m.n≤2 ^ depth):
  ∃ v' m',run A (n+1) 120 [v] m=some (v',m')∧RS (fun x=>[AV.int .i64 x]) 1 m' v' (Lib.compact zs)∧m'.n=m.n∧(∀ i,i < n0→m'.get i=m.get i):=by
 rw [run_120]
 unfold fnEv a120 primFn
 try dsimp only
 rcases h with ⟨rfl,h1,h2⟩ | ⟨b,h0,rfl,h1,h2⟩
 ·have:zs=[]:=List.length_eq_zero_iff.1 h2
  subst this
  exact ⟨.nils,m,rfl,.inl ⟨rfl,rfl⟩,rfl,fun _ _=>rfl⟩
 ·have hb:=Mem.get_lt h1
  by_cases hz:zs.length=0
  ·have:zs=[]:=List.length_eq_zero_iff.1 hz
   subst this
   exact ⟨_,m,rfl,.inr ⟨b,0,none,1,rfl,fun i x hx=>by simp [Lib.compact,Lib.compactUpTo] at hx⟩,rfl,fun _ _=>rfl⟩
  ·have hc:cellsAt (zs.map fun z=>AV.int .i64 z) 0 zs.length=some (zs.map fun z=>AV.int .i64 z):=by
    unfold cellsAt
    rw [if_pos (by simp),List.drop_zero,List.take_of_length_le (by simp)]
   have hcl:=Lib.compact_length_le zs
   refine ⟨.slice b 0 (Lib.compact zs).length none 1,m.set b (.cells ((Lib.compact zs++List.replicate (zs.length - (Lib.compact zs).length) 0).map fun z=>AV.int .i64 z) true),?_,.inr ⟨b,0,none,1,rfl,fun i x hx=>⟨_,_,Mem.get_set_same _ hb,?_⟩⟩,rfl,fun i hi=>Mem.get_set_ne _ hm hb (by omega)⟩
   ·unfold compactEv ownInts
    simp only [hz,if_false,h1,hc,intsOf_map,Option.map_some]
    congr 3
    unfold splice
    simp
    omega
   ·have hi:=(List.getElem?_eq_some_iff.1 hx).1
    rw [Nat.zero_add,Nat.mul_one]
    apply cells_one
    rw [List.getElem?_map,List.getElem?_append_left hi,hx]
    rfl
def callS (_:Nat) (x:II) (acc:List Int):Stp (List Int) Unit:=.go (if x.op=17 then acc++[x.a] else acc)
def callsI (l:List II):List Int:=(l.filter fun x=>decide (x.op=17)).map II.a
theorem fold_calls:∀ (l:List II) (i:Nat) (acc:List Int),foldS callS l i acc=.inl (acc++callsI l)
 | [],i,acc=>by simp [foldS,callsI]
 | x::r,i,acc=>by
  simp only [foldS,callS]
  rw [fold_calls r (i+1) _]
  by_cases h:x.op=17
  ·simp [callsI,h]
  ·simp [callsI,h]
theorem call_body (m:Mem) (u:AV) (l:List II) (hv:RS II.cs 4 m u l) (hl:l.length≤100000) (n0 N i:Nat) (x:II) (acc:List Int) (hal:acc.length≤100000) (hx:l[i]?=some x) (m1:Mem) (he:Ext m m1) (hn0:n0≤m.n) (hmn:m1.n+3≤2 ^ depth) (v:AV) (ho:OS 1 n0 m1 v (acc.map fun z=>AV.int .i64 z) acc.length) (T:List (Nat×AV)) (L:List (Nat×List AV)) (hk:keepT [4,20,21,22] [] T=[(4,v),(20,u),(21,.int .i64 (l.length:Int)),(22,.int .i64 (i:Int))]) (again:AC→St→Option (Ex×St)):
  ∃ T' L' m2 v',codeEv (run A N) again a189_B1 ⟨39,T,L,m1⟩=some (.norm,⟨39,T',L',m2⟩)∧keepT [4,20,21,22] [] T'=[(4,v'),(20,u),(21,.int .i64 (l.length:Int)),(22,.int .i64 ((i+1:Nat):Int))]∧OS 1 n0 m2 v' ((if x.op=17 then acc++[x.a] else acc).map fun z=>AV.int .i64 z) (if x.op=17 then acc++[x.a] else acc).length∧m1.n≤m2.n∧m2.n≤m1.n+2∧(∀ i,i < n0→m2.get i=m1.get i):=by
 obtain ⟨u1,u2,u3,u4⟩:=hv.plain
 obtain ⟨v1,v2,v3,v4⟩:=ho.plain
 have hlt:=(List.getElem?_eq_some_iff.1 hx).1
 have h':(i:Int) < (l.length:Int):=by omega
 obtain ⟨b,o,cs,ow,e1,e2,e3,_⟩:=(hv.ext he).ii hx
 have a1:=add_i i (by omega)
 cases d1:decide (x.op=17)
 ·have hd:=of_decide_eq_false d1
  rw [if_neg hd]
  unfold a189_B1
  exact ⟨_,_,m1,v,by simp only [KK,opE_mkslc,Nat.reduceEqDiff,Nat.reduceAdd,Nat.reduceLeDiff,Nat.reduceLT,Nat.reducePow,Nat.mul_one,hk,h',e1,e2,e3,a1,d1,u1,v1]; rfl,by simp only [keepT,List.map,look_set,look_cons,in_int,Nat.reduceEqDiff,if_true,if_false,u1,v1],ho,Nat.le_refl _,by omega,fun _ _=>rfl⟩
 ·have hd:=of_decide_eq_true d1
  rw [if_pos hd]
  have hf:m1.full=false:=not_full (by omega)
  have hz1:zerosEv [AV.int .i64 0] 1=[.int .i64 0]:=rfl
  obtain ⟨v',m2,ha,ho2,hn2,hk2⟩:=app_spec (ty:=none) (c:=1) (n0:=n0) (bytes:=8) (by omega) (ho.push (.cells [.int .i64 x.a] true) (by omega)) (by':=m1.n) (cp:=some 1) (e:=[.int .i64 x.a]) (ow:=true) (Mem.get_push_new _) rfl rfl (by rw [push_n]; omega) (by rw [push_n]; have:=he.1; omega) (by omega) (Nat.le_trans (show acc.length+1≤100001 by omega) (by decide))
  obtain ⟨w1,w2,w3,w4⟩:=ho2.plain
  rw [push_n] at hn2
  refine ⟨_,_,m2,v',by
   unfold a189_B1
   simp only [KK,opE_mkslc,Nat.reduceEqDiff,Nat.reduceAdd,Nat.reduceLeDiff,Nat.reduceLT,Nat.reducePow,Nat.mul_one,hk,h',e1,e2,e3,a1,d1,u1,v1,hf,hz1,ha,w1]; rfl,by simp only [keepT,List.map,look_set,look_cons,in_int,Nat.reduceEqDiff,if_true,if_false,u1,w1],?_,by omega,by omega,fun j hj=>(hk2 j hj).trans (Mem.get_push_old _ hf (by have:=he.1; omega))⟩
  simpa using ho2
def callsP (M:Img) (f:Nat):List Int:=Lib.compact (sortZ (callsI (segP M f)))
theorem callsI_len (l:List II):(callsI l).length≤l.length:=by
 unfold callsI
 rw [List.length_map]
 exact List.length_filter_le _ _
theorem call_loop (m:Mem) (u:AV) (l:List II) (hv:RS II.cs 4 m u l) (hl:l.length≤100000) (hmn:m.n+2*l.length+3≤2 ^ depth) (N:Nat) (hN:l.length+1≤N) (T:List (Nat×AV)) (L:List (Nat×List AV)) (hk:keepT [4,20,21,22] [] T=[(4,.nils),(20,u),(21,.int .i64 (l.length:Int)),(22,.int .i64 0)]) {q:Option (Ex×St)} (hq:codeEv (run A N) (ev A N).2 a189_L1 ⟨39,T,L,m⟩=q):
  ∃ T' L' m' v',q=some (.exit 0,⟨39,T',L',m'⟩)∧keepT [4] [] T'=[(4,v')]∧OS 1 m.n m' v' ((callsI l).map fun z=>AV.int .i64 z) (callsI l).length∧Gr m m' (2*l.length):=by
 obtain ⟨u1,u2,u3,u4⟩:=hv.plain
 have h:=scan0 (A:=A) a189_L1 a189_B1 a189_L1_step (fun i (acc:List Int) s=>∃ T L m1 v,s=⟨39,T,L,m1⟩∧keepT [4,20,21,22] [] T=[(4,v),(20,u),(21,.int .i64 (l.length:Int)),(22,.int .i64 (i:Int))]∧OS 1 m.n m1 v (acc.map fun z=>AV.int .i64 z) acc.length∧Ext m m1∧m1.n≤m.n+2*i∧acc.length≤i∧i≤l.length) (fun acc s=>∃ T' L' m' v',s=⟨39,T',L',m'⟩∧keepT [4] [] T'=[(4,v')]∧OS 1 m.n m' v' (acc.map fun z=>AV.int .i64 z) acc.length∧Gr m m' (2*l.length)) (fun (_:Unit) s=>False) 0 1 callS l
  (fun N b s hN ⟨T,L,m1,v,hs,hk,ho,he,hm1,hb,hi⟩=>by
   subst hs
   obtain ⟨v1,v2,v3,v4⟩:=ho.plain
   have h':¬(l.length:Int) < (l.length:Int):=by omega
   unfold a189_B1
   exact ⟨_,by simp only [KK,Nat.reduceEqDiff,Nat.reduceLT,hk,h']; rfl,_,_,_,_,rfl,by simp only [keepT,List.map,look_set,look_cons,Nat.reduceEqDiff,if_true,if_false,v1],ho,he,by omega⟩)
  (fun N i x b s hN hx ⟨T,L,m1,v,hs,hk,ho,he,hm1,hb,hi⟩=>by
   subst hs
   have hlt:=(List.getElem?_eq_some_iff.1 hx).1
   obtain ⟨T',L',m2,v',e1,e2,e3,e4,e5,e6⟩:=call_body m u l hv hl m.n N i x b (by omega) hx m1 he (Nat.le_refl _) (by omega) v ho T L hk (ev A N).2
   unfold callS
   refine ⟨_,e1,_,_,_,_,rfl,e2,e3,⟨by have:=he.1; omega,fun j hj=>(e6 j hj).trans (he.2 j hj)⟩,by omega,?_,by omega⟩
   by_cases h:x.op=17
   ·rw [if_pos h,List.length_append,List.length_singleton]; omega
   ·rw [if_neg h]; omega)
  N [] ⟨39,T,L,m⟩ (by omega) ⟨T,L,m,.nils,rfl,hk,.inl ⟨rfl,rfl,rfl⟩,Ext.refl m,by omega,by simp,by omega⟩ hq
 rw [fold_calls,List.nil_append] at h
 obtain ⟨s',e,T',L',m',v',rfl,h1,h2,h3⟩:=h
 exact ⟨T',L',m',v',e,h1,h2,h3⟩
theorem calls_run (N:Nat) (m:Mem) (I:ImV) (M:Img) (hm:IM m I M) (hcs:CapS I.c 4) (hsp:Spans M) (hl:M.code.length≤100000) (hlf:M.funcs.length≤1000) (f:Nat) (hf:f < M.funcs.length) (hN:M.code.length+6≤N) (hmn:m.n+2*M.code.length+3≤2 ^ depth):
  ∃ v' m',run A N 189 [.agg (ic I M),.int .i64 (f:Int)] m=some (v',m')∧RS (fun x=>[AV.int .i64 x]) 1 m' v' (callsP M f)∧Gr m m' (2*M.code.length):=by
 obtain ⟨n,rfl⟩:∃ n,N=n+1:=⟨N - 1,by omega⟩
 have hP:=hm.pls
 have hb:=bounds_run n (by omega) m I M hm f hf (by omega)
 have hs:=hsp f hf
 unfold callsP segP
 obtain ⟨fr,hfr⟩:∃ k:Nat,fromP M f=(k:Int):=⟨(fromP M f).toNat,by omega⟩
 obtain ⟨te,hte⟩:∃ k:Nat,toP M f=(k:Int):=⟨(toP M f).toNat,by omega⟩
 rw [hfr,hte] at hb hs ⊢
 rw [Int.toNat_natCast,Int.toNat_natCast]
 obtain ⟨u,hsl,hu⟩:=hm.c.sub hcs (fr:=fr) (te:=te) (by omega) (by omega)
 have hlen:((M.code.drop fr).take (te - fr)).length≤M.code.length:=by rw [List.length_take,List.length_drop]; omega
 generalize (M.code.drop fr).take (te - fr)=l at*
 obtain ⟨u1,u2,u3,u4⟩:=hu.plain
 have lu:=hu.lenR
 rw [run_189]
 unfold fnEv a189
 simp only [KK,Nat.reduceEqDiff,Nat.reduceAdd,Nat.reduceLeDiff,Nat.reduceLT,opE_slcL,Option.map_none,hb,hsl,lu]
 generalize hq:codeEv (run A n) (ev A n).2 a189_L1 _=q
 obtain ⟨T',L',m1,v1,rfl,k1,o1,g1⟩:=call_loop m u l hu (by omega) (by omega) n (by omega) _ _ (by simp only [keepT,List.map,look_set,look_cons,in_int,in_nils,Nat.reduceEqDiff,if_true,if_false,u1,in_nils]) hq
 obtain ⟨p1,p2,p3,p4⟩:=o1.plain
 have hcl:=callsI_len l
 have gn:=g1.2
 obtain ⟨m2,r2,o2,n2,k2⟩:=sort_at (n - 1) o1 (by omega) (by omega)
 rw [show n - 1+1=n by omega] at r2
 have hsl2:(sortZ (callsI l)).length=(callsI l).length:=by unfold sortZ; simp
 rw [←hsl2] at o2
 obtain ⟨v3,m3,r3,o3,n3,k3⟩:=compact_at (n - 1) o2 (by omega)
 rw [show n - 1+1=n by omega] at r3
 obtain ⟨w1,w2,w3,w4⟩:=o3.plain
 refine ⟨v3,m3,?_,o3,⟨⟨by have:=g1.1.1; omega,fun i hi=>(k3 i hi).trans ((k2 i hi).trans (g1.1.2 i hi))⟩,by omega⟩⟩
 simp only [look_set,look_nil,look_cons,List.map,Nat.reduceEqDiff,Nat.reduceLT,if_true,if_false,Bool.false_eq_true,keepT_setT,k1,p1,p2,r2,r3,w2]
def GB (B:Nat) (m m':Mem) (k:Nat):Prop:=m.n≤m'.n∧m'.n≤m.n+k∧∀ i,i≠B→i < m.n→m'.get i=m.get i
theorem GB.refl (B:Nat) (m:Mem):GB B m m 0:=⟨Nat.le_refl _,Nat.le_refl _,fun _ _ _=>rfl⟩
theorem GB.trans {B:Nat} {a b c:Mem} {j k:Nat} (h:GB B a b j) (i:GB B b c k):GB B a c (j+k):=⟨by have:=h.1; have:=i.1; omega,by have:=h.2.1; have:=i.2.1; omega,fun x hx hl=>(i.2.2 x hx (by have:=h.1; omega)).trans (h.2.2 x hx hl)⟩
theorem GB.le {B:Nat} {a b:Mem} {j k:Nat} (h:GB B a b j) (hk:j≤k):GB B a b k:=⟨h.1,by have:=h.2.1; omega,h.2.2⟩
theorem GB.of {a b:Mem} {k:Nat} (B:Nat) (h:Gr a b k):GB B a b k:=⟨h.1.1,h.2,fun i _ hi=>h.1.2 i hi⟩
theorem GB.set (B:Nat) (m:Mem) (x:ABlk) (hm:m.n≤2 ^ depth) (hB:B < m.n):GB B m (m.set B x) 0:=⟨Nat.le_refl _,Nat.le_refl _,fun _i hi _=>Mem.get_set_ne x hm hB (fun h=>hi h.symm)⟩
theorem GB.ext {B:Nat} {a m m':Mem} {k:Nat} (ha:Ext a m) (h:GB B m m' k) (hB:a.n≤B):Ext a m':=⟨by have:=ha.1; have:=h.1; omega,fun i hi=>(h.2.2 i (by omega) (by have:=ha.1; omega)).trans (ha.2 i hi)⟩
def goW (rec:Nat→List Nat→Option (Bool×List Nat)):List Int→List Nat→Option (Bool×List Nat)
 | [],s=>some (true,s)
 | g::r,s=>match s[g.toNat]? with
  | some 1=>some (false,s)
  | some 0=>match rec g.toNat s with
   | some (true,s')=>goW rec r s'
   | o=>o
  | _=>goW rec r s
def dfsW (cs:Nat→List Int):Nat→Nat→List Nat→Option (Bool×List Nat)
 | 0,_,_=>none
 | k+1,f,s=>match goW (dfsW cs k) (cs f) (s.set f 1) with
  | some (true,s')=>some (true,s'.set f 2)
  | o=>o
def whites (s:List Nat):Nat:=(s.filter fun x=>x == 0).length
def u8s (s:List Nat):List AV:=s.map fun (x:Nat)=>AV.int .u8 (x:Int)
theorem whites_set:∀ (s:List Nat) (f c:Nat),s[f]?=some 0→c≠0→whites (s.set f c)+1=whites s
 | x::r,0,c,h,hc=>by
  simp only [List.getElem?_cons_zero,Option.some.injEq] at h
  subst h
  have:(c == 0)=false:=by simpa using hc
  simp [whites,this]
 | x::r,f+1,c,h,hc=>by
  simp only [List.getElem?_cons_succ] at h
  have ih:=whites_set r f c h hc
  unfold whites at ih ⊢
  simp only [List.set_cons_succ,List.filter_cons]
  split
  ·simp only [List.length_cons]; omega
  ·exact ih
theorem whites_set2:∀ (s:List Nat) (f c:Nat),c≠0→whites (s.set f c)≤whites s
 | [],f,c,_=>by simp
 | x::r,0,c,hc=>by
  have:(c == 0)=false:=by simpa using hc
  simp only [List.set_cons_zero,whites,List.filter_cons,this,Bool.false_eq_true,if_false]
  split
  ·simp
  ·exact Nat.le_refl _
 | x::r,f+1,c,hc=>by
  have ih:=whites_set2 r f c hc
  unfold whites at ih ⊢
  simp only [List.set_cons_succ,List.filter_cons]
  split
  ·simp only [List.length_cons]; omega
  ·exact ih
theorem u8s_at {s:List Nat} {g c:Nat} (h:s[g]?=some c):cellsAt (u8s s) (0+g) 1=some [.int .u8 (c:Int)]:=by
 rw [Nat.zero_add]
 exact cells_one (by unfold u8s; rw [List.getElem?_map,h]; rfl)
theorem u8s_set (s:List Nat) (f c:Nat) (h:f < s.length):splice (u8s s) (0+f) [.int .u8 (c:Int)]=u8s (s.set f c):=by
 rw [Nat.zero_add]
 unfold splice u8s
 rw [List.map_set,List.set_eq_take_append_cons_drop,if_pos (by simpa using h)]
 simp
theorem u8_0 (x:Int):binEv .eql (.int .u8 x) (.int .u8 0)=some (.bool (x == 0)):=rfl
theorem u8_1 (x:Int):binEv .eql (.int .u8 x) (.int .u8 1)=some (.bool (x == 1)):=rfl
structure WM (m0:Mem) (I:ImV) (M:Img) (Q1 Q2 Q3:Nat) (m:Mem) (s:List Nat):Prop where
 ext:Ext m0 m
 q1:m0.n≤Q1
 q2:m0.n≤Q2
 q3:m0.n≤Q3
 n12:Q1≠Q2
 n32:Q3≠Q2
 g1:m.get Q1=some (.cells (ic I M) true)
 g2:m.get Q2=some (.cells (u8s s) true)
 g3:m.get Q3=some (.cells [.fn 188 [.ptr Q2 0,.ptr Q1 0,.ptr Q3 0]] true)
theorem WM.gb {m0:Mem} {I:ImV} {M:Img} {Q1 Q2 Q3:Nat} {m m':Mem} {s s':List Nat} {k:Nat} (h:WM m0 I M Q1 Q2 Q3 m s) (g:GB Q2 m m' k) (hg:m'.get Q2=some (.cells (u8s s') true)):WM m0 I M Q1 Q2 Q3 m' s':=
 ⟨GB.ext h.ext g h.q2,h.q1,h.q2,h.q3,h.n12,h.n32,(g.2.2 _ h.n12 (Mem.get_lt h.g1)).trans h.g1,hg,(g.2.2 _ h.n32 (Mem.get_lt h.g3)).trans h.g3⟩
theorem WM.set {m0:Mem} {I:ImV} {M:Img} {Q1 Q2 Q3:Nat} {m:Mem} {s:List Nat} (h:WM m0 I M Q1 Q2 Q3 m s) (s':List Nat) (hm:m.n≤2 ^ depth):WM m0 I M Q1 Q2 Q3 (m.set Q2 (.cells (u8s s') true)) s':=
 h.gb (GB.set Q2 m _ hm (Mem.get_lt h.g2)) (Mem.get_set_same _ (Mem.get_lt h.g2))
def walkS (rec:Nat→List Nat→Option (Bool×List Nat)) (_:Nat) (g:Int) (s:List Nat):Stp (List Nat) (Option (List Nat)):=match s[g.toNat]? with
 | some 1=>.ret (some s)
 | some 0=>match rec g.toNat s with
  | some (true,s')=>.go s'
  | some (false,s')=>.ret (some s')
  | none=>.ret none
 | _=>.go s
theorem fold_walk (rec:Nat→List Nat→Option (Bool×List Nat)):∀ (l:List Int) (i:Nat) (s:List Nat),(match foldS (walkS rec) l i s with | .inl s'=>some (true,s') | .inr (some s')=>some (false,s') | .inr none=>none)=goW rec l s
 | [],i,s=>rfl
 | g::r,i,s=>by
  have ih:=fun s'=>fold_walk rec r (i+1) s'
  rw [goW]
  cases hg:s[g.toNat]? with
  | none=>
   have e:walkS rec i g s=.go s:=by unfold walkS; rw [hg]
   simp only [foldS,e]
   exact ih s
  | some c=>
   match c,hg with
   | 0,hg=>
    cases hr:rec g.toNat s with
    | none=>
     have e:walkS rec i g s=.ret none:=by simp only [walkS,hg,hr]
     simp only [foldS,e]
    | some p=>
     obtain ⟨b,s'⟩:=p
     cases b
     ·have e:walkS rec i g s=.ret (some s'):=by simp only [walkS,hg,hr]
      simp only [foldS,e]
     ·have e:walkS rec i g s=.go s':=by simp only [walkS,hg,hr]
      simp only [foldS,e]
      exact ih s'
   | 1,hg=>
    have e:walkS rec i g s=.ret (some s):=by simp only [walkS,hg]
    simp only [foldS,e]
   | c+2,hg=>
    have e:walkS rec i g s=.go s:=by unfold walkS; rw [hg]; rfl
    simp only [foldS,e]
    exact ih s
def RecOk (K C:Nat) (rec:Nat→List Nat→Option (Bool×List Nat)) (m0:Mem) (I:ImV) (M:Img) (Q1 Q2 Q3:Nat) (W:Nat):Prop:=
 ∀ (f:Nat) (s:List Nat),s.length=64→f < M.funcs.length→s[f]?=some 0→whites s≤W→∃ ok s',rec f s=some (ok,s')∧s'.length=64∧whites s'≤whites s∧
  ∀ (N:Nat) (m:Mem),K≤N→WM m0 I M Q1 Q2 Q3 m s→m.n+C*whites s+C+3≤2 ^ depth→∃ m',run A N 188 [.int .i64 (f:Int),.ptr Q2 0,.ptr Q1 0,.ptr Q3 0] m=some (.bool ok,m')∧m'.get Q2=some (.cells (u8s s') true)∧(∀ i,i≠Q2→i < m.n→m'.get i=m.get i)∧m.n≤m'.n∧m'.n+C*whites s'≤m.n+C*whites s
theorem walk_body (K C W:Nat) (rec:Nat→List Nat→Option (Bool×List Nat)) (m0:Mem) (I:ImV) (M:Img) (Q1 Q2 Q3:Nat) (hrec:RecOk K C rec m0 I M Q1 Q2 Q3 W) (f:Nat) (v:AV) (l:List Int) (hl:l.length≤100000) (hin:∀ g∈l,0≤g∧g < (M.funcs.length:Int)) (h64:M.funcs.length≤64) (N i:Nat) (g:Int) (hN:K≤N) (hx:l[i]?=some g) (s:List Nat) (hs:s.length=64) (hW:whites s≤W) (m:Mem) (hwm:WM m0 I M Q1 Q2 Q3 m s) (hvm:RS (fun x=>[AV.int .i64 x]) 1 m v l) (hmn:m.n+C*whites s+C+3≤2 ^ depth) (T:List (Nat×AV)) (L:List (Nat×List AV)) (hk:keepT [0,1,3,12,13,14] [] T=[(0,.int .i64 (f:Int)),(1,.ptr Q2 0),(3,.ptr Q3 0),(12,v),(13,.int .i64 (l.length:Int)),(14,.int .i64 (i:Int))]):
  match walkS rec i g s with
  | .go s'=>s'.length=64∧whites s'≤whites s∧∃ T' L' m',codeEv (run A N) (ev A N).2 a188_B1 ⟨37,T,L,m⟩=some (.norm,⟨37,T',L',m'⟩)∧keepT [0,1,3,12,13,14] [] T'=[(0,.int .i64 (f:Int)),(1,.ptr Q2 0),(3,.ptr Q3 0),(12,v),(13,.int .i64 (l.length:Int)),(14,.int .i64 ((i+1:Nat):Int))]∧m'.get Q2=some (.cells (u8s s') true)∧(∀ i,i≠Q2→i < m.n→m'.get i=m.get i)∧m.n≤m'.n∧m'.n+C*whites s'≤m.n+C*whites s
  | .brk _=>False
  | .ret none=>False
  | .ret (some s')=>s'.length=64∧whites s'≤whites s∧∃ T' L' m',codeEv (run A N) (ev A N).2 a188_B1 ⟨37,T,L,m⟩=some (.ret,⟨37,T',L',m'⟩)∧look T' 5=.bool false∧m'.get Q2=some (.cells (u8s s') true)∧(∀ i,i≠Q2→i < m.n→m'.get i=m.get i)∧m.n≤m'.n∧m'.n+C*whites s'≤m.n+C*whites s:=by
 obtain ⟨v1,v2,v3,v4⟩:=hvm.plain
 have hlt:=(List.getElem?_eq_some_iff.1 hx).1
 have h':(i:Int) < (l.length:Int):=by omega
 obtain ⟨b,o,cs,ow,e1,e2,e3⟩:=hvm.i1 hx
 have a1:=add_i i (by omega)
 have hg:=hin g (List.mem_of_getElem? hx)
 obtain ⟨k,rfl⟩:∃ k:Nat,g=(k:Int):=⟨g.toNat,by omega⟩
 have hk64:0≤(k:Int)∧(k:Int) < ((64:Nat):Int):=by omega
 obtain ⟨c,hc⟩:∃ c,s[k]?=some c:=⟨_,List.getElem?_eq_getElem (by omega)⟩
 have hr:=u8s_at hc
 have hQ2:=hwm.g2
 have hQ3:=hwm.g3
 match c,hc,hr with
 | 1,hc,hr=>
  have e:walkS rec i (k:Int) s=.ret (some s):=by simp only [walkS,Int.toNat_natCast,hc]
  rw [e]
  dsimp only
  have z1:(((1:Nat):Int) == 1)=true:=rfl
  refine ⟨hs,Nat.le_refl _,?_⟩
  unfold a188_B1
  exact ⟨_,_,m,by simp only [KK,Nat.reduceEqDiff,Nat.reduceLT,Int.toNat_natCast,Nat.mul_one,opE_iaddrA,iaR_ptr,u8_1,hk,h',e1,e2,e3,v1,hk64,hQ2,hr,z1]; rfl,by simp only [look_set,if_true],hQ2,fun _ _ _=>rfl,Nat.le_refl _,Nat.le_refl _⟩
 | c+2,hc,hr=>
  have e:walkS rec i (k:Int) s=.go s:=by unfold walkS; rw [Int.toNat_natCast,hc]; rfl
  rw [e]
  dsimp only
  have z1:(((c+2:Nat):Int) == 1)=false:=by rw [beq_eq_false_iff_ne]; omega
  have z0:(((c+2:Nat):Int) == 0)=false:=by rw [beq_eq_false_iff_ne]; omega
  refine ⟨hs,Nat.le_refl _,?_⟩
  unfold a188_B1
  exact ⟨_,_,m,by simp only [KK,Nat.reduceEqDiff,Nat.reduceLT,Int.toNat_natCast,Nat.mul_one,opE_iaddrA,iaR_ptr,u8_0,u8_1,hk,h',e1,e2,e3,v1,hk64,hQ2,hr,z1,z0,a1]; rfl,by simp only [keepT,List.map,look_set,look_cons,in_int,in_ptr,Nat.reduceEqDiff,if_true,if_false,v1],hQ2,fun _ _ _=>rfl,Nat.le_refl _,Nat.le_refl _⟩
 | 0,hc,hr=>
  obtain ⟨ok,s',r1,r2,r3,r4⟩:=hrec k s hs (by omega) hc hW
  obtain ⟨m',c1,c2,c3,c4,c5⟩:=r4 N m hN hwm hmn
  have z1:(((0:Nat):Int) == 1)=false:=rfl
  have z0:(((0:Nat):Int) == 0)=true:=rfl
  cases ok
  ·have e:walkS rec i (k:Int) s=.ret (some s'):=by simp only [walkS,Int.toNat_natCast,hc,r1]
   rw [e]
   dsimp only
   refine ⟨r2,r3,?_⟩
   unfold a188_B1
   exact ⟨_,_,m',by simp only [KK,Nat.reduceEqDiff,Nat.reduceAdd,Nat.reduceLeDiff,Nat.reduceLT,Int.toNat_natCast,Nat.mul_one,opE_iaddrA,iaR_ptr,u8_0,u8_1,hk,h',e1,e2,e3,v1,hk64,hQ2,hQ3,hr,z1,z0,c1]; rfl,by simp only [look_set,if_true],c2,c3,c4,c5⟩
  ·have e:walkS rec i (k:Int) s=.go s':=by simp only [walkS,Int.toNat_natCast,hc,r1]
   rw [e]
   dsimp only
   refine ⟨r2,r3,?_⟩
   unfold a188_B1
   exact ⟨_,_,m',by simp only [KK,Nat.reduceEqDiff,Nat.reduceAdd,Nat.reduceLeDiff,Nat.reduceLT,Int.toNat_natCast,Nat.mul_one,opE_iaddrA,iaR_ptr,u8_0,u8_1,hk,h',e1,e2,e3,v1,hk64,hQ2,hQ3,hr,z1,z0,c1,a1]; rfl,by simp only [keepT,List.map,look_set,look_cons,in_int,in_ptr,Nat.reduceEqDiff,if_true,if_false,v1],c2,c3,c4,c5⟩
end AG
