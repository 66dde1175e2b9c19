/- What the functions that read images and paths compute, and the laws of that. -/
import Derived.Test.YtkmbepgofajfkaaDoorAgPd
namespace AG
open Go Go.Proofs.YtkmbepgofajfkaaDoor
set_option maxRecDepth 100000
set_option maxHeartbeats 4000000
theorem goW_some (rec:Nat→List Nat→Option (Bool×List Nat)) (W n:Nat) (h64:n≤64) (hrec:∀ f s,s.length=64→f < n→s[f]?=some 0→whites s≤W→∃ ok s',rec f s=some (ok,s')∧s'.length=64∧whites s'≤whites s):∀ (l:List Int) (s:List Nat),(∀ g∈l,0≤g∧g < (n:Int))→s.length=64→whites s≤W→∃ ok s',goW rec l s=some (ok,s')∧s'.length=64∧whites s'≤whites s
 | [],s,_,hs,_=>⟨true,s,rfl,hs,Nat.le_refl _⟩
 | g::r,s,hl,hs,hW=>by
  have hg:=hl g (by simp)
  have hr:=fun x hx=>hl x (List.mem_cons_of_mem _ hx)
  obtain ⟨c,hc⟩:∃ c,s[g.toNat]?=some c:=⟨_,List.getElem?_eq_getElem (by omega)⟩
  rw [goW,hc]
  match c,hc with
  | 0,hc=>
   obtain ⟨ok,s',r1,r2,r3⟩:=hrec g.toNat s hs (by omega) hc hW
   cases ok
   ·exact ⟨false,s',by simp only [r1],r2,r3⟩
   ·obtain ⟨ok2,s2,q1,q2,q3⟩:=goW_some rec W n h64 hrec r s' hr r2 (by omega)
    exact ⟨ok2,s2,by simp only [r1,q1],q2,by omega⟩
  | 1,hc=>exact ⟨false,s,rfl,hs,Nat.le_refl _⟩
  | c+2,hc=>
   obtain ⟨ok2,s2,q1,q2,q3⟩:=goW_some rec W n h64 hrec r s hr hs hW
   exact ⟨ok2,s2,q1,q2,q3⟩
theorem RS.gb {m m':Mem} {v:AV} {l:List Int} {Q:Nat} {s:List Nat} (hv:RS (fun x=>[AV.int .i64 x]) 1 m v l) (hq:m.get Q=some (.cells (u8s s) true)) (h:∀ i,i≠Q→i < m.n→m'.get i=m.get i):RS (fun x=>[AV.int .i64 x]) 1 m' v l:=by
 rcases hv with h0 | ⟨b,o,cap,e,rfl,hv⟩
 ·exact .inl h0
 ·refine .inr ⟨b,o,cap,e,rfl,fun i x hx=>?_⟩
  obtain ⟨cs,ow,h1,h2⟩:=hv i x hx
  have hb:b≠Q:=by
   rintro rfl
   rw [hq] at h1
   cases h1
   unfold cellsAt at h2
   split at h2
   ·have h3:=congrArg (fun z=>z.bind fun y=>y[0]?) h2
    simp only [Option.bind_some,List.getElem?_cons_zero] at h3
    rw [List.getElem?_take,if_pos (by omega),List.getElem?_drop] at h3
    unfold u8s at h3
    rw [List.getElem?_map] at h3
    cases hz:s[o+i*1+0]? with
    | none=>rw [hz] at h3; cases h3
    | some y=>rw [hz] at h3; cases h3
   ·cases h2
  exact ⟨cs,ow,(h b hb (Mem.get_lt h1)).trans h1,h2⟩
theorem callsP_len (M:Img) (f:Nat):(callsP M f).length≤M.code.length:=by
 have h1:=Lib.compact_length_le (sortZ (callsI (segP M f)))
 have h2:(sortZ (callsI (segP M f))).length=(callsI (segP M f)).length:=by unfold sortZ; simp
 have h3:=callsI_len (segP M f)
 have h4:(segP M f).length≤M.code.length:=by unfold segP; rw [List.length_take,List.length_drop]; omega
 unfold callsP
 omega
def CallsIn (M:Img):Prop:=∀ f,f < M.funcs.length→∀ g∈callsP M f,0≤g∧g < (M.funcs.length:Int)
theorem walk_fn (k:Nat) (m0:Mem) (I:ImV) (M:Img) (Q1 Q2 Q3:Nat) (hm0:IM m0 I M) (hcs:CapS I.c 4) (hsp:Spans M) (hcl:M.code.length≤100000) (h64:M.funcs.length≤64) (hin:CallsIn M) (ih:RecOk (k*(M.code.length+20)+M.code.length+20) (2*M.code.length) (dfsW (callsP M) k) m0 I M Q1 Q2 Q3 k) (f:Nat) (s:List Nat) (hs:s.length=64) (hf:f < M.funcs.length) (h0:s[f]?=some 0) (hW:whites s≤k+1):
  ∃ ok s',dfsW (callsP M) (k+1) f s=some (ok,s')∧s'.length=64∧whites s'≤whites s∧
   ∀ (N:Nat) (m:Mem),(k+1)*(M.code.length+20)+M.code.length+20≤N→WM m0 I M Q1 Q2 Q3 m s→m.n+2*M.code.length*whites s+2*M.code.length+3≤2 ^ depth→∃ m',run A N 188 [.int .i64 (f:Int),.ptr Q2 0,.ptr Q1 0,.ptr Q3 0] m=some (.bool ok,m')∧m'.get Q2=some (.cells (u8s s') true)∧(∀ i,i≠Q2→i < m.n→m'.get i=m.get i)∧m.n≤m'.n∧m'.n+2*M.code.length*whites s'≤m.n+2*M.code.length*whites s:=by
 have w1:=whites_set s f 1 h0 (by omega)
 have hs1:(s.set f 1).length=64:=by rw [List.length_set]; exact hs
 have hcalls:=hin f hf
 obtain ⟨ok,s',q1,q2,q3⟩:=goW_some (dfsW (callsP M) k) k M.funcs.length h64 (fun f s a b c d=>by
  obtain ⟨ok,s',e1,e2,e3,_⟩:=ih f s a b c d
  exact ⟨ok,s',e1,e2,e3⟩) (callsP M f) (s.set f 1) hcalls hs1 (by omega)
 have hd:dfsW (callsP M) (k+1) f s=some (ok,if ok=true then s'.set f 2 else s'):=by
  rw [dfsW,q1]
  cases ok <;> rfl
 refine ⟨ok,_,hd,?_,?_,?_⟩
 ·split
  ·rw [List.length_set]; exact q2
  ·exact q2
 ·split
  ·have:=whites_set2 s' f 2 (by omega)
   omega
  ·omega
 intro N m hN hwm hmn
 obtain ⟨n,rfl⟩:∃ n,N=n+1:=⟨N - 1,by omega⟩
 rw [Nat.succ_mul] at hN
 have hmful:m.n≤2 ^ depth:=by omega
 have wm1:=hwm.set (s.set f 1) hmful
 have hCw:2*M.code.length*whites s=2*M.code.length*whites (s.set f 1)+2*M.code.length:=by
  rw [←w1,Nat.mul_add,Nat.mul_one]
 obtain ⟨v,m2,c61,hv,g2⟩:=calls_run n _ I M (hm0.ext wm1.ext) hcs hsp hcl (by omega) f hf (by omega) (by rw [set_n]; omega)
 have g2n:=g2.2
 rw [set_n] at g2n
 have wm2:=wm1.gb (GB.of Q2 g2) ((g2.1.2 _ (Mem.get_lt wm1.g2)).trans wm1.g2)
 have hm2:∀ i,i≠Q2→i < m.n→m2.get i=m.get i:=fun i hi hl=>(g2.1.2 i (by rw [set_n]; exact hl)).trans (Mem.get_set_ne _ hmful (Mem.get_lt hwm.g2) (fun e=>hi e.symm))
 have hm2n:m.n≤m2.n:=by have:=g2.1.1; rw [set_n] at this; exact this
 obtain ⟨v1,v2,v3,v4⟩:=hv.plain
 have lv:=hv.lenR
 have hll:=callsP_len M f
 have hf64:0≤(f:Int)∧(f:Int) < ((64:Nat):Int):=by omega
 have hQ2:=hwm.g2
 have hQ1:=wm1.g1
 have hst:List.take (0+f) (u8s s)++[AV.int .u8 1]++List.drop (0+f+1) (u8s s)=u8s (s.set f 1):=u8s_set s f 1 (by omega)
 have hsl:0+f+1≤(u8s s).length:=by unfold u8s; rw [List.length_map]; omega
 generalize callsP M f=l at*
 rw [run_188]
 unfold fnEv a188
 simp only [KK,Nat.reduceEqDiff,Nat.reduceAdd,Nat.reduceLeDiff,Nat.reduceLT,Int.toNat_natCast,Nat.mul_one,opE_iaddrA,iaR_ptr,hf64,hQ2,hsl,hst,hQ1,c61,lv]
 generalize hq:codeEv (run A n) (ev A n).2 a188_L1 _=q
 have h:=scan0 (A:=A) a188_L1 a188_B1 a188_L1_step (fun i (z:List Nat) st=>∃ T L m',st=⟨37,T,L,m'⟩∧keepT [0,1,3,12,13,14] [] T=[(0,.int .i64 (f:Int)),(1,.ptr Q2 0),(3,.ptr Q3 0),(12,v),(13,.int .i64 (l.length:Int)),(14,.int .i64 (i:Int))]∧z.length=64∧whites z≤k∧WM m0 I M Q1 Q2 Q3 m' z∧RS (fun x=>[AV.int .i64 x]) 1 m' v l∧(∀ i,i≠Q2→i < m2.n→m'.get i=m2.get i)∧m2.n≤m'.n∧m'.n+2*M.code.length*whites z≤m2.n+2*M.code.length*whites (s.set f 1))
  (fun (z:List Nat) st=>∃ T L m',st=⟨37,T,L,m'⟩∧keepT [0,1] [] T=[(0,.int .i64 (f:Int)),(1,.ptr Q2 0)]∧z.length=64∧m'.get Q2=some (.cells (u8s z) true)∧(∀ i,i≠Q2→i < m2.n→m'.get i=m2.get i)∧m2.n≤m'.n∧m'.n+2*M.code.length*whites z≤m2.n+2*M.code.length*whites (s.set f 1))
  (fun (z:Option (List Nat)) st=>∃ z',z=some z'∧∃ T L m',st=⟨37,T,L,m'⟩∧look T 5=.bool false∧m'.get Q2=some (.cells (u8s z') true)∧(∀ i,i≠Q2→i < m2.n→m'.get i=m2.get i)∧m2.n≤m'.n∧m'.n+2*M.code.length*whites z'≤m2.n+2*M.code.length*whites (s.set f 1)) 0 (k*(M.code.length+20)+M.code.length+20) (walkS (dfsW (callsP M) k)) l
  (fun N b st hN ⟨T,L,m',hst,hk,hz,_,hwm',_,ho,hle,hb⟩=>by
   subst hst
   have h':¬(l.length:Int) < (l.length:Int):=by omega
   unfold a188_B1
   exact ⟨_,by simp only [KK,Nat.reduceEqDiff,Nat.reduceLT,hk,h']; rfl,_,_,_,rfl,by simp only [keepT,List.map,look_set,look_cons,in_int,in_ptr,Nat.reduceEqDiff,if_true,if_false],hz,hwm'.g2,ho,hle,hb⟩)
  (fun N i x b st hN hx ⟨T,L,m',hst,hk,hz,hzk,hwm',hv',ho,hle,hb⟩=>by
   subst hst
   have hb':=walk_body _ (2*M.code.length) k (dfsW (callsP M) k) m0 I M Q1 Q2 Q3 ih f v l (by omega) hcalls h64 N i x hN hx b hz hzk m' hwm' hv' (by omega) T L hk
   cases hwk:walkS (dfsW (callsP M) k) i x b with
   | go z=>
    rw [hwk] at hb'
    obtain ⟨r1,r2,T',L',m3,e1,e2,e3,e4,e5,e6⟩:=hb'
    have gb:GB Q2 m' m3 (m3.n - m'.n):=⟨e5,by omega,e4⟩
    exact ⟨_,e1,_,_,_,rfl,e2,r1,by omega,hwm'.gb gb e3,hv'.gb hwm'.g2 e4,fun i hi hl=>(e4 i hi (by omega)).trans (ho i hi hl),by omega,by omega⟩
   | brk z=>rw [hwk] at hb'; exact hb'.elim
   | ret z=>
    rw [hwk] at hb'
    cases z with
    | none=>exact hb'.elim
    | some z=>
     obtain ⟨r1,r2,T',L',m3,e1,e2,e3,e4,e5,e6⟩:=hb'
     exact ⟨_,e1,z,rfl,_,_,_,rfl,e2,e3,fun i hi hl=>(e4 i hi (by omega)).trans (ho i hi hl),by omega,by omega⟩)
  n (s.set f 1) _ (by omega) ⟨_,_,m2,rfl,by simp only [keepT,List.map,look_set,look_cons,in_int,in_ptr,Nat.reduceEqDiff,if_true,if_false,v1]; rfl,hs1,by omega,wm2,hv,fun _ _ _=>rfl,Nat.le_refl _,Nat.le_refl _⟩ hq
 have hfw:=fold_walk (dfsW (callsP M) k) l 0 (s.set f 1)
 rw [q1] at hfw
 cases hr:foldS (walkS (dfsW (callsP M) k)) l 0 (s.set f 1) with
 | inl z=>
  rw [hr] at h hfw
  dsimp only at h hfw
  simp only [Option.some.injEq,Prod.mk.injEq] at hfw
  obtain ⟨rfl,rfl⟩:=hfw
  obtain ⟨st,rfl,T',L',m',rfl,hk,hz,hg,ho,hle,hb⟩:=h
  have hst3:List.take (0+f) (u8s z)++[AV.int .u8 2]++List.drop (0+f+1) (u8s z)=u8s (z.set f 2):=u8s_set z f 2 (by omega)
  have hsl3:0+f+1≤(u8s z).length:=by unfold u8s; rw [List.length_map]; omega
  have w2:=whites_set2 z f 2 (by omega)
  have hm'f:m'.n≤2 ^ depth:=by omega
  refine ⟨m'.set Q2 (.cells (u8s (z.set f 2)) true),?_,Mem.get_set_same _ (Mem.get_lt hg),fun i hi hl=>(Mem.get_set_ne _ hm'f (Mem.get_lt hg) (fun e=>hi e.symm)).trans ((ho i hi (by omega)).trans (hm2 i hi hl)),by rw [set_n]; omega,?_⟩
  ·simp only [KK,Nat.reduceEqDiff,Nat.reduceLT,Int.toNat_natCast,Nat.mul_one,iaR_ptr,hk,hf64,hg,hsl3,hst3]
  ·rw [set_n,if_pos rfl]
   have:2*M.code.length*whites (z.set f 2)≤2*M.code.length*whites z:=Nat.mul_le_mul_left _ w2
   omega
 | inr z=>
  rw [hr] at h hfw
  dsimp only at h
  obtain ⟨st,rfl,z',rfl,T',L',m',rfl,hk,hg,ho,hle,hb⟩:=h
  dsimp only at hfw
  simp only [Option.some.injEq,Prod.mk.injEq] at hfw
  obtain ⟨rfl,rfl⟩:=hfw
  refine ⟨m',?_,hg,fun i hi hl=>(ho i hi (by omega)).trans (hm2 i hi hl),by omega,?_⟩
  ·simp only [loc_bool,if_false,Bool.false_eq_true,hk]
  ·rw [if_neg (by simp)]
   omega
theorem dfs_ok (m0:Mem) (I:ImV) (M:Img) (Q1 Q2 Q3:Nat) (hm0:IM m0 I M) (hcs:CapS I.c 4) (hsp:Spans M) (hcl:M.code.length≤100000) (h64:M.funcs.length≤64) (hin:CallsIn M):∀ k,RecOk (k*(M.code.length+20)+M.code.length+20) (2*M.code.length) (dfsW (callsP M) k) m0 I M Q1 Q2 Q3 k
 | 0=>fun f s hs hf h0 hW=>by
  have:=whites_set s f 1 h0 (by omega)
  omega
 | k+1=>fun f s hs hf h0 hW=>walk_fn k m0 I M Q1 Q2 Q3 hm0 hcs hsp hcl h64 hin (dfs_ok m0 I M Q1 Q2 Q3 hm0 hcs hsp hcl h64 hin k) f s hs hf h0 hW
def circS (cs:Nat→List Int) (f:Nat) (_:FF) (s:List Nat):Stp (List Nat) Unit:=match s[f]? with
 | some 0=>match dfsW cs 64 f s with
  | some (true,s')=>.go s'
  | _=>.ret ()
 | _=>.go s
def circlesP (M:Img):Bool:=match foldS (circS (callsP M)) M.funcs 0 (List.replicate 64 0) with
 | .inl _=>true
 | .inr _=>false
theorem whites_le (s:List Nat):whites s≤s.length:=List.length_filter_le _ _
theorem circ_body (m0:Mem) (I:ImV) (M:Img) (Q1 Q2 Q3:Nat) (hm0:IM m0 I M) (hcs:CapS I.c 4) (hsp:Spans M) (hcl:M.code.length≤100000) (h64:M.funcs.length≤64) (hin:CallsIn M) (N f:Nat) (x:FF) (hN:64*(M.code.length+20)+M.code.length+20≤N) (hx:M.funcs[f]?=some x) (s:List Nat) (hs:s.length=64) (m:Mem) (hwm:WM m0 I M Q1 Q2 Q3 m s) (hmn:m.n+2*M.code.length*whites s+2*M.code.length+3≤2 ^ depth) (T:List (Nat×AV)) (L:List (Nat×List AV)) (hk:keepT [3,4,10,11] [] T=[(3,.ptr Q2 0),(4,.ptr Q3 0),(10,.int .i64 (M.funcs.length:Int)),(11,.int .i64 (f:Int))]):
  match circS (callsP M) f x s with
  | .go s'=>s'.length=64∧whites s'≤whites s∧∃ T' L' m',codeEv (run A N) (ev A N).2 a185_B1 ⟨25,T,L,m⟩=some (.norm,⟨25,T',L',m'⟩)∧keepT [3,4,10,11] [] T'=[(3,.ptr Q2 0),(4,.ptr Q3 0),(10,.int .i64 (M.funcs.length:Int)),(11,.int .i64 ((f+1:Nat):Int))]∧m'.get Q2=some (.cells (u8s s') true)∧(∀ i,i≠Q2→i < m.n→m'.get i=m.get i)∧m.n≤m'.n∧m'.n+2*M.code.length*whites s'≤m.n+2*M.code.length*whites s
  | .brk _=>False
  | .ret _=>∃ T' L' m',codeEv (run A N) (ev A N).2 a185_B1 ⟨25,T,L,m⟩=some (.ret,⟨25,T',L',m'⟩)∧look T' 2=.int .i64 13∧(∀ i,i≠Q2→i < m.n→m'.get i=m.get i)∧m.n≤m'.n∧m'.n≤m.n+2*M.code.length*whites s:=by
 have hlt:=(List.getElem?_eq_some_iff.1 hx).1
 have h':(f:Int) < (M.funcs.length:Int):=by omega
 have a1:=add_i f (by omega)
 have hk64:0≤(f:Int)∧(f:Int) < ((64:Nat):Int):=by omega
 obtain ⟨c,hc⟩:∃ c,s[f]?=some c:=⟨_,List.getElem?_eq_getElem (by omega)⟩
 have hr:=u8s_at hc
 have hQ2:=hwm.g2
 have hQ3:=hwm.g3
 match c,hc,hr with
 | c+1,hc,hr=>
  have e:circS (callsP M) f x s=.go s:=by unfold circS; rw [hc]; rfl
  rw [e]
  dsimp only
  have z0:(((c+1:Nat):Int) == 0)=false:=by rw [beq_eq_false_iff_ne]; omega
  refine ⟨hs,Nat.le_refl _,?_⟩
  unfold a185_B1
  exact ⟨_,_,m,by simp only [KK,Nat.reduceEqDiff,Nat.reduceLT,Int.toNat_natCast,Nat.mul_one,opE_iaddrA,iaR_ptr,a185_R1,u8_0,hk,h',hk64,hQ2,hr,z0,a1]; rfl,by simp only [keepT,List.map,look_set,look_cons,in_int,in_ptr,Nat.reduceEqDiff,if_true,if_false],hQ2,fun _ _ _=>rfl,Nat.le_refl _,Nat.le_refl _⟩
 | 0,hc,hr=>
  have hw:=whites_le s
  obtain ⟨ok,s',r1,r2,r3,r4⟩:=dfs_ok m0 I M Q1 Q2 Q3 hm0 hcs hsp hcl h64 hin 64 f s hs hlt hc (by omega)
  obtain ⟨m',c1,c2,c3,c4,c5⟩:=r4 N m hN hwm hmn
  have z0:(((0:Nat):Int) == 0)=true:=rfl
  cases ok
  ·have e:circS (callsP M) f x s=.ret ():=by simp only [circS,hc,r1]
   rw [e]
   dsimp only
   unfold a185_B1
   exact ⟨_,_,m',by simp only [KK,Nat.reduceEqDiff,Nat.reduceAdd,Nat.reduceLeDiff,Nat.reduceLT,Int.toNat_natCast,Nat.mul_one,opE_iaddrA,iaR_ptr,a185_R1,u8_0,hk,h',hk64,hQ2,hQ3,hr,z0,c1]; rfl,by simp only [look_set,if_true],c3,c4,by omega⟩
  ·have e:circS (callsP M) f x s=.go s':=by simp only [circS,hc,r1]
   rw [e]
   dsimp only
   refine ⟨r2,r3,?_⟩
   unfold a185_B1
   exact ⟨_,_,m',by simp only [KK,Nat.reduceEqDiff,Nat.reduceAdd,Nat.reduceLeDiff,Nat.reduceLT,Int.toNat_natCast,Nat.mul_one,opE_iaddrA,iaR_ptr,a185_R1,u8_0,hk,h',hk64,hQ2,hQ3,hr,z0,c1,a1]; rfl,by simp only [keepT,List.map,look_set,look_cons,in_int,in_ptr,Nat.reduceEqDiff,if_true,if_false],c2,c3,c4,c5⟩
theorem rep_u8:List.replicate 64 (AV.int .u8 0)=u8s (List.replicate 64 0):=by unfold u8s; rw [List.map_replicate]; rfl
theorem circles_run (N:Nat) (m:Mem) (I:ImV) (M:Img) (hm:IM m I M) (hcs:CapS I.c 4) (hsp:Spans M) (hcl:M.code.length≤100000) (h64:M.funcs.length≤64) (hin:CallsIn M) (hN:65*(M.code.length+20)+100≤N) (hmn:m.n+132*M.code.length+10≤2 ^ depth):∃ m',run A N 185 [.agg (ic I M)] m=some (.int .i64 (if circlesP M=true then 0 else 13),m')∧Gr m m' (128*M.code.length+3):=by
 obtain ⟨n,rfl⟩:∃ n,N=n+1:=⟨N - 1,by omega⟩
 have hP:=hm.pls
 have hf0:m.full=false:=not_full (by omega)
 have hf1:(m.push (.cells (ic I M) true)).full=false:=not_full (by rw [push_n]; omega)
 have hf2:((m.push (.cells (ic I M) true)).push (.cells (u8s (List.replicate 64 0)) true)).full=false:=not_full (by rw [push_n,push_n]; omega)
 have w64:whites (List.replicate 64 0)=64:=by decide
 obtain ⟨ma,hma⟩:∃ ma,ma=((m.push (.cells (ic I M) true)).push (.cells (u8s (List.replicate 64 0)) true)).push (.cells [.nilf] true):=⟨_,rfl⟩
 have hman:ma.n=m.n+3:=by rw [hma,push_n,push_n,push_n]
 have hxa:Ext m ma:=by rw [hma]; exact (((Ext.refl m).push _ (by omega)).push _ (by rw [push_n]; omega)).push _ (by rw [push_n,push_n]; omega)
 have ha1:ma.get m.n=some (.cells (ic I M) true):=by rw [hma,Mem.get_push_old _ hf2 (by rw [push_n,push_n]; omega),Mem.get_push_old _ hf1 (by rw [push_n]; omega),Mem.get_push_new]
 have ha2:ma.get (m.n+1)=some (.cells (u8s (List.replicate 64 0)) true):=by
  rw [hma,Mem.get_push_old _ hf2 (by rw [push_n,push_n]; omega)]
  exact Mem.get_push_new _
 have ha3:ma.get (m.n+2)=some (.cells [.nilf] true):=by rw [hma]; exact Mem.get_push_new _
 have hfa:ma.n≤2 ^ depth:=by omega
 have hwm:WM m I M m.n (m.n+1) (m.n+2) (ma.set (m.n+2) (.cells [.fn 188 [.ptr (m.n+1) 0,.ptr m.n 0,.ptr (m.n+2) 0]] true)) (List.replicate 64 0):=
  ⟨hxa.set _ _ hfa (by omega) (by omega),Nat.le_refl _,by omega,by omega,by omega,by omega,(Mem.get_set_ne _ hfa (by omega) (by omega)).trans ha1,(Mem.get_set_ne _ hfa (by omega) (by omega)).trans ha2,Mem.get_set_same _ (by omega)⟩
 have hQ1:=hwm.g1
 have hru:=rep_u8
 unfold circlesP
 rw [run_185]
 unfold fnEv a185
 simp only [KK,Nat.reduceEqDiff,Nat.reduceAdd,Nat.reduceLeDiff,Nat.reduceLT,push_n,hP,hf0,hru,hf1,hf2,←hma,ha3,hQ1]
 generalize hq:codeEv (run A n) (ev A n).2 a185_L1 _=q
 have h:=scan0 (A:=A) a185_L1 a185_B1 a185_L1_step (fun i (z:List Nat) st=>∃ T L m',st=⟨25,T,L,m'⟩∧keepT [3,4,10,11] [] T=[(3,.ptr (m.n+1) 0),(4,.ptr (m.n+2) 0),(10,.int .i64 (M.funcs.length:Int)),(11,.int .i64 (i:Int))]∧z.length=64∧WM m I M m.n (m.n+1) (m.n+2) m' z∧m'.n+2*M.code.length*whites z≤m.n+3+2*M.code.length*64)
  (fun (z:List Nat) st=>∃ T L m',st=⟨25,T,L,m'⟩∧Gr m m' (128*M.code.length+3))
  (fun (_:Unit) st=>∃ T L m',st=⟨25,T,L,m'⟩∧look T 2=.int .i64 13∧Gr m m' (128*M.code.length+3)) 0 (64*(M.code.length+20)+M.code.length+20) (circS (callsP M)) M.funcs
  (fun N b st hN ⟨T,L,m',hst,hk,hz,hwm',hb⟩=>by
   subst hst
   have h':¬(M.funcs.length:Int) < (M.funcs.length:Int):=by omega
   unfold a185_B1
   exact ⟨_,by simp only [KK,Nat.reduceEqDiff,Nat.reduceLT,hk,h']; rfl,_,_,_,rfl,hwm'.ext,by omega⟩)
  (fun N i x b st hN hx ⟨T,L,m',hst,hk,hz,hwm',hb⟩=>by
   subst hst
   have hw:=whites_le b
   have hmul:2*M.code.length*whites b≤2*M.code.length*64:=Nat.mul_le_mul_left _ (by omega)
   have hb':=circ_body m I M m.n (m.n+1) (m.n+2) hm hcs hsp hcl h64 hin N i x hN hx b hz m' hwm' (by omega) T L hk
   cases hwk:circS (callsP M) i x b with
   | go z=>
    rw [hwk] at hb'
    obtain ⟨r1,r2,T',L',m3,e1,e2,e3,e4,e5,e6⟩:=hb'
    have gb:GB (m.n+1) m' m3 (m3.n - m'.n):=⟨e5,by omega,e4⟩
    exact ⟨_,e1,_,_,_,rfl,e2,r1,hwm'.gb gb e3,by omega⟩
   | brk z=>rw [hwk] at hb'; exact hb'.elim
   | ret z=>
    rw [hwk] at hb'
    obtain ⟨T',L',m3,e1,e2,e4,e5,e6⟩:=hb'
    have gb:GB (m.n+1) m' m3 (m3.n - m'.n):=⟨e5,by omega,e4⟩
    exact ⟨_,e1,_,_,_,rfl,e2,GB.ext hwm'.ext gb (by omega),by omega⟩)
  n (List.replicate 64 0) _ (by omega) ⟨_,_,_,rfl,by simp only [keepT,List.map,look_set,look_cons,in_int,in_ptr,Nat.reduceEqDiff,if_true,if_false]; rfl,by simp,hwm,by rw [set_n,hman,w64]; omega⟩ hq
 cases hr:foldS (circS (callsP M)) M.funcs 0 (List.replicate 64 0) with
 | inl z=>
  rw [hr] at h
  dsimp only at h
  obtain ⟨st,rfl,T',L',m',rfl,hg⟩:=h
  refine ⟨m',?_,hg⟩
  simp only [look_set,loc_int,Nat.reduceLT,if_true,if_false,Bool.false_eq_true]
 | inr z=>
  rw [hr] at h
  dsimp only at h
  obtain ⟨st,rfl,T',L',m',rfl,h2,hg⟩:=h
  refine ⟨m',?_,hg⟩
  simp only [loc_int,if_false,Bool.false_eq_true,h2,Bool.false_eq_true]
def checkI (M:Img):Int:=if sizesP M=true then (if funcsP M=true then (if vecsP M=true then (if codesP M=true then (if atomsP M=true then (if circlesP M=true then 0 else 13) else 2) else 2) else 2) else 2) else 3
theorem mem_compact {zs:List Int} {g:Int} (h:g∈Lib.compact zs):g∈zs:=by
 unfold Lib.compact Lib.compactUpTo at h
 obtain ⟨i,hi,rfl⟩:=List.mem_map.1 h
 have hi':=List.mem_range.1 (List.mem_filter.1 hi).1
 rw [getElem!_pos zs.toArray i (by simpa using hi')]
 simp
theorem calls_in {M:Img} (h:codesP M=true):CallsIn M:=by
 intro f hf g hg
 obtain ⟨x,hx⟩:∃ x,M.funcs[f]?=some x:=⟨_,List.getElem?_eq_getElem hf⟩
 have hb:=(allI_iff _ _ _).1 h f x hx
 rw [Nat.zero_add] at hb
 unfold bodyP at hb
 rw [Bool.and_eq_true] at hb
 have hg1:g∈callsI (segP M f):=by
  have:=mem_compact hg
  unfold sortZ at this
  exact List.mem_mergeSort.1 this
 unfold callsI at hg1
 obtain ⟨y,hy,rfl⟩:=List.mem_map.1 hg1
 obtain ⟨hy1,hy2⟩:=List.mem_filter.1 hy
 have hop:=of_decide_eq_true hy2
 obtain ⟨i,hi⟩:=List.getElem?_of_mem hy1
 have hc:=(allI_iff _ _ _).1 hb.1 i y hi
 unfold codeP at hc
 rw [Bool.and_eq_true] at hc
 have h1:=(codeOk_small hc.1).1
 have h2:=hc.2
 unfold insP at h2
 simp only [hop,show ¬(17:Int)=1 by decide,show ¬((17:Int)=4∨(17:Int)=5) by decide,show ¬((17:Int)=6∨(17:Int)=7) by decide,show ¬((17:Int)=8∨(17:Int)=9) by decide,show ¬((17:Int)=10∨(17:Int)=11) by decide,show ¬((17:Int)=15∨(17:Int)=16) by decide,if_true,if_false,decide_eq_true_eq] at h2
 omega
theorem n6:((6:Nat):Int)=6:=rfl
theorem ad34:binEv .add (.int .i64 3) (.int .i64 1)=some (.int .i64 4):=rfl
theorem ad45:binEv .add (.int .i64 4) (.int .i64 1)=some (.int .i64 5):=rfl
theorem ad56:binEv .add (.int .i64 5) (.int .i64 1)=some (.int .i64 6):=rfl
theorem chk_ok0 (N:Nat) (again:AC→St→Option (Ex×St)) (m m':Mem) (I:ImV) (M:Img) (hm:IM m I M) (hc:run A N 180 [.agg (ic I M)] m=some (.int .i64 0,m')) (T:List (Nat×AV)) (L:List (Nat×List AV)) (hk:keepT [1,6,7] [1] T=[(1,.loc 1 0),(6,.agg [.fn 180 [],.fn 181 [],.fn 182 [],.fn 183 [],.fn 184 [],.fn 185 []]),(7,.int .i64 0)]) (hL:lookL L 1=some (ic I M)):
  ∃ T' L',codeEv (run A N) again a54_B1 ⟨18,T,L,m⟩=some (.norm,⟨18,T',L',m'⟩)∧keepT [1,6,7] [1] T'=[(1,.loc 1 0),(6,.agg [.fn 180 [],.fn 181 [],.fn 182 [],.fn 183 [],.fn 184 [],.fn 185 []]),(7,.int .i64 1)]∧lookL L' 1=some (ic I M):=by
 have hP:=hm.pls
 have a1:=add_i 0 (by omega)
 unfold a54_B1
 exact ⟨_,_,by simp only [KK,Nat.reduceEqDiff,Int.reduceLT,Int.reduceLE,Nat.reduceAdd,Nat.reduceLeDiff,Nat.reduceLT,Nat.mul_one,opE_idxA,ixR_one,ad0,hk,hL,hc,n6]; rfl,by simp only [keepT,List.map,look_set,look_cons,in_int,in_agg,in_loc,Nat.reduceEqDiff,if_true,if_false,List.contains_cons,List.contains_nil,beq_self_eq_true,Bool.or_false],by simp only [lookL_cons,if_true]⟩
theorem chk_bad0 (N:Nat) (again:AC→St→Option (Ex×St)) (m m':Mem) (I:ImV) (M:Img) (hm:IM m I M) (e:Int) (he:decide (e=0)=false) (hc:run A N 180 [.agg (ic I M)] m=some (.int .i64 e,m')) (T:List (Nat×AV)) (L:List (Nat×List AV)) (hk:keepT [1,6,7] [1] T=[(1,.loc 1 0),(6,.agg [.fn 180 [],.fn 181 [],.fn 182 [],.fn 183 [],.fn 184 [],.fn 185 []]),(7,.int .i64 0)]) (hL:lookL L 1=some (ic I M)):
  ∃ T' L',codeEv (run A N) again a54_B1 ⟨18,T,L,m⟩=some (.ret,⟨18,T',L',m'⟩)∧look T' 2=.int .i64 e:=by
 have hP:=hm.pls
 unfold a54_B1
 exact ⟨_,_,by simp only [KK,Nat.reduceEqDiff,Int.reduceLT,Int.reduceLE,Nat.reduceAdd,Nat.reduceLeDiff,Nat.reduceLT,Nat.mul_one,opE_idxA,ixR_one,hk,hL,hc,n6,he]; rfl,by simp only [look_set,look_cons,Nat.reduceEqDiff,if_true,if_false]⟩
theorem chk_ok1 (N:Nat) (again:AC→St→Option (Ex×St)) (m m':Mem) (I:ImV) (M:Img) (hm:IM m I M) (hc:run A N 181 [.agg (ic I M)] m=some (.int .i64 0,m')) (T:List (Nat×AV)) (L:List (Nat×List AV)) (hk:keepT [1,6,7] [1] T=[(1,.loc 1 0),(6,.agg [.fn 180 [],.fn 181 [],.fn 182 [],.fn 183 [],.fn 184 [],.fn 185 []]),(7,.int .i64 1)]) (hL:lookL L 1=some (ic I M)):
  ∃ T' L',codeEv (run A N) again a54_B1 ⟨18,T,L,m⟩=some (.norm,⟨18,T',L',m'⟩)∧keepT [1,6,7] [1] T'=[(1,.loc 1 0),(6,.agg [.fn 180 [],.fn 181 [],.fn 182 [],.fn 183 [],.fn 184 [],.fn 185 []]),(7,.int .i64 2)]∧lookL L' 1=some (ic I M):=by
 have hP:=hm.pls
 have a1:=add_i 1 (by omega)
 unfold a54_B1
 exact ⟨_,_,by simp only [KK,Nat.reduceEqDiff,Int.reduceLT,Int.reduceLE,Nat.reduceAdd,Nat.reduceLeDiff,Nat.reduceLT,Int.reduceToNat,Nat.mul_one,opE_idxA,ixR_one,ad1,hk,hL,hc,n6]; rfl,by simp only [keepT,List.map,look_set,look_cons,in_int,in_agg,in_loc,Nat.reduceEqDiff,if_true,if_false,List.contains_cons,List.contains_nil,beq_self_eq_true,Bool.or_false],by simp only [lookL_cons,if_true]⟩
theorem chk_bad1 (N:Nat) (again:AC→St→Option (Ex×St)) (m m':Mem) (I:ImV) (M:Img) (hm:IM m I M) (e:Int) (he:decide (e=0)=false) (hc:run A N 181 [.agg (ic I M)] m=some (.int .i64 e,m')) (T:List (Nat×AV)) (L:List (Nat×List AV)) (hk:keepT [1,6,7] [1] T=[(1,.loc 1 0),(6,.agg [.fn 180 [],.fn 181 [],.fn 182 [],.fn 183 [],.fn 184 [],.fn 185 []]),(7,.int .i64 1)]) (hL:lookL L 1=some (ic I M)):
  ∃ T' L',codeEv (run A N) again a54_B1 ⟨18,T,L,m⟩=some (.ret,⟨18,T',L',m'⟩)∧look T' 2=.int .i64 e:=by
 have hP:=hm.pls
 unfold a54_B1
 exact ⟨_,_,by simp only [KK,Nat.reduceEqDiff,Int.reduceLT,Int.reduceLE,Nat.reduceAdd,Nat.reduceLeDiff,Nat.reduceLT,Int.reduceToNat,Nat.mul_one,opE_idxA,ixR_one,hk,hL,hc,n6,he]; rfl,by simp only [look_set,look_cons,Nat.reduceEqDiff,if_true,if_false]⟩
theorem chk_ok2 (N:Nat) (again:AC→St→Option (Ex×St)) (m m':Mem) (I:ImV) (M:Img) (hm:IM m I M) (hc:run A N 182 [.agg (ic I M)] m=some (.int .i64 0,m')) (T:List (Nat×AV)) (L:List (Nat×List AV)) (hk:keepT [1,6,7] [1] T=[(1,.loc 1 0),(6,.agg [.fn 180 [],.fn 181 [],.fn 182 [],.fn 183 [],.fn 184 [],.fn 185 []]),(7,.int .i64 2)]) (hL:lookL L 1=some (ic I M)):
  ∃ T' L',codeEv (run A N) again a54_B1 ⟨18,T,L,m⟩=some (.norm,⟨18,T',L',m'⟩)∧keepT [1,6,7] [1] T'=[(1,.loc 1 0),(6,.agg [.fn 180 [],.fn 181 [],.fn 182 [],.fn 183 [],.fn 184 [],.fn 185 []]),(7,.int .i64 3)]∧lookL L' 1=some (ic I M):=by
 have hP:=hm.pls
 have a1:=add_i 2 (by omega)
 unfold a54_B1
 exact ⟨_,_,by simp only [KK,Nat.reduceEqDiff,Int.reduceLT,Int.reduceLE,Nat.reduceAdd,Nat.reduceLeDiff,Nat.reduceLT,Int.reduceToNat,Nat.mul_one,opE_idxA,ixR_one,ad2,hk,hL,hc,n6]; rfl,by simp only [keepT,List.map,look_set,look_cons,in_int,in_agg,in_loc,Nat.reduceEqDiff,if_true,if_false,List.contains_cons,List.contains_nil,beq_self_eq_true,Bool.or_false],by simp only [lookL_cons,if_true]⟩
theorem chk_bad2 (N:Nat) (again:AC→St→Option (Ex×St)) (m m':Mem) (I:ImV) (M:Img) (hm:IM m I M) (e:Int) (he:decide (e=0)=false) (hc:run A N 182 [.agg (ic I M)] m=some (.int .i64 e,m')) (T:List (Nat×AV)) (L:List (Nat×List AV)) (hk:keepT [1,6,7] [1] T=[(1,.loc 1 0),(6,.agg [.fn 180 [],.fn 181 [],.fn 182 [],.fn 183 [],.fn 184 [],.fn 185 []]),(7,.int .i64 2)]) (hL:lookL L 1=some (ic I M)):
  ∃ T' L',codeEv (run A N) again a54_B1 ⟨18,T,L,m⟩=some (.ret,⟨18,T',L',m'⟩)∧look T' 2=.int .i64 e:=by
 have hP:=hm.pls
 unfold a54_B1
 exact ⟨_,_,by simp only [KK,Nat.reduceEqDiff,Int.reduceLT,Int.reduceLE,Nat.reduceAdd,Nat.reduceLeDiff,Nat.reduceLT,Int.reduceToNat,Nat.mul_one,opE_idxA,ixR_one,hk,hL,hc,n6,he]; rfl,by simp only [look_set,look_cons,Nat.reduceEqDiff,if_true,if_false]⟩
theorem chk_ok3 (N:Nat) (again:AC→St→Option (Ex×St)) (m m':Mem) (I:ImV) (M:Img) (hm:IM m I M) (hc:run A N 183 [.agg (ic I M)] m=some (.int .i64 0,m')) (T:List (Nat×AV)) (L:List (Nat×List AV)) (hk:keepT [1,6,7] [1] T=[(1,.loc 1 0),(6,.agg [.fn 180 [],.fn 181 [],.fn 182 [],.fn 183 [],.fn 184 [],.fn 185 []]),(7,.int .i64 3)]) (hL:lookL L 1=some (ic I M)):
  ∃ T' L',codeEv (run A N) again a54_B1 ⟨18,T,L,m⟩=some (.norm,⟨18,T',L',m'⟩)∧keepT [1,6,7] [1] T'=[(1,.loc 1 0),(6,.agg [.fn 180 [],.fn 181 [],.fn 182 [],.fn 183 [],.fn 184 [],.fn 185 []]),(7,.int .i64 4)]∧lookL L' 1=some (ic I M):=by
 have hP:=hm.pls
 have a1:=add_i 3 (by omega)
 unfold a54_B1
 exact ⟨_,_,by simp only [KK,Nat.reduceEqDiff,Int.reduceLT,Int.reduceLE,Nat.reduceAdd,Nat.reduceLeDiff,Nat.reduceLT,Int.reduceToNat,Nat.mul_one,opE_idxA,ixR_one,hk,hL,hc,n6,ad34]; rfl,by simp only [keepT,List.map,look_set,look_cons,in_int,in_agg,in_loc,Nat.reduceEqDiff,if_true,if_false,List.contains_cons,List.contains_nil,beq_self_eq_true,Bool.or_false],by simp only [lookL_cons,if_true]⟩
theorem chk_bad3 (N:Nat) (again:AC→St→Option (Ex×St)) (m m':Mem) (I:ImV) (M:Img) (hm:IM m I M) (e:Int) (he:decide (e=0)=false) (hc:run A N 183 [.agg (ic I M)] m=some (.int .i64 e,m')) (T:List (Nat×AV)) (L:List (Nat×List AV)) (hk:keepT [1,6,7] [1] T=[(1,.loc 1 0),(6,.agg [.fn 180 [],.fn 181 [],.fn 182 [],.fn 183 [],.fn 184 [],.fn 185 []]),(7,.int .i64 3)]) (hL:lookL L 1=some (ic I M)):
  ∃ T' L',codeEv (run A N) again a54_B1 ⟨18,T,L,m⟩=some (.ret,⟨18,T',L',m'⟩)∧look T' 2=.int .i64 e:=by
 have hP:=hm.pls
 unfold a54_B1
 exact ⟨_,_,by simp only [KK,Nat.reduceEqDiff,Int.reduceLT,Int.reduceLE,Nat.reduceAdd,Nat.reduceLeDiff,Nat.reduceLT,Int.reduceToNat,Nat.mul_one,opE_idxA,ixR_one,hk,hL,hc,n6,he]; rfl,by simp only [look_set,look_cons,Nat.reduceEqDiff,if_true,if_false]⟩
theorem chk_ok4 (N:Nat) (again:AC→St→Option (Ex×St)) (m m':Mem) (I:ImV) (M:Img) (hm:IM m I M) (hc:run A N 184 [.agg (ic I M)] m=some (.int .i64 0,m')) (T:List (Nat×AV)) (L:List (Nat×List AV)) (hk:keepT [1,6,7] [1] T=[(1,.loc 1 0),(6,.agg [.fn 180 [],.fn 181 [],.fn 182 [],.fn 183 [],.fn 184 [],.fn 185 []]),(7,.int .i64 4)]) (hL:lookL L 1=some (ic I M)):
  ∃ T' L',codeEv (run A N) again a54_B1 ⟨18,T,L,m⟩=some (.norm,⟨18,T',L',m'⟩)∧keepT [1,6,7] [1] T'=[(1,.loc 1 0),(6,.agg [.fn 180 [],.fn 181 [],.fn 182 [],.fn 183 [],.fn 184 [],.fn 185 []]),(7,.int .i64 5)]∧lookL L' 1=some (ic I M):=by
 have hP:=hm.pls
 have a1:=add_i 4 (by omega)
 unfold a54_B1
 exact ⟨_,_,by simp only [KK,Nat.reduceEqDiff,Int.reduceLT,Int.reduceLE,Nat.reduceAdd,Nat.reduceLeDiff,Nat.reduceLT,Int.reduceToNat,Nat.mul_one,opE_idxA,ixR_one,hk,hL,hc,n6,ad45]; rfl,by simp only [keepT,List.map,look_set,look_cons,in_int,in_agg,in_loc,Nat.reduceEqDiff,if_true,if_false,List.contains_cons,List.contains_nil,beq_self_eq_true,Bool.or_false],by simp only [lookL_cons,if_true]⟩
theorem chk_bad4 (N:Nat) (again:AC→St→Option (Ex×St)) (m m':Mem) (I:ImV) (M:Img) (hm:IM m I M) (e:Int) (he:decide (e=0)=false) (hc:run A N 184 [.agg (ic I M)] m=some (.int .i64 e,m')) (T:List (Nat×AV)) (L:List (Nat×List AV)) (hk:keepT [1,6,7] [1] T=[(1,.loc 1 0),(6,.agg [.fn 180 [],.fn 181 [],.fn 182 [],.fn 183 [],.fn 184 [],.fn 185 []]),(7,.int .i64 4)]) (hL:lookL L 1=some (ic I M)):
  ∃ T' L',codeEv (run A N) again a54_B1 ⟨18,T,L,m⟩=some (.ret,⟨18,T',L',m'⟩)∧look T' 2=.int .i64 e:=by
 have hP:=hm.pls
 unfold a54_B1
 exact ⟨_,_,by simp only [KK,Nat.reduceEqDiff,Int.reduceLT,Int.reduceLE,Nat.reduceAdd,Nat.reduceLeDiff,Nat.reduceLT,Int.reduceToNat,Nat.mul_one,opE_idxA,ixR_one,hk,hL,hc,n6,he]; rfl,by simp only [look_set,look_cons,Nat.reduceEqDiff,if_true,if_false]⟩
theorem chk_ok5 (N:Nat) (again:AC→St→Option (Ex×St)) (m m':Mem) (I:ImV) (M:Img) (hm:IM m I M) (hc:run A N 185 [.agg (ic I M)] m=some (.int .i64 0,m')) (T:List (Nat×AV)) (L:List (Nat×List AV)) (hk:keepT [1,6,7] [1] T=[(1,.loc 1 0),(6,.agg [.fn 180 [],.fn 181 [],.fn 182 [],.fn 183 [],.fn 184 [],.fn 185 []]),(7,.int .i64 5)]) (hL:lookL L 1=some (ic I M)):
  ∃ T' L',codeEv (run A N) again a54_B1 ⟨18,T,L,m⟩=some (.norm,⟨18,T',L',m'⟩)∧keepT [1,6,7] [1] T'=[(1,.loc 1 0),(6,.agg [.fn 180 [],.fn 181 [],.fn 182 [],.fn 183 [],.fn 184 [],.fn 185 []]),(7,.int .i64 6)]∧lookL L' 1=some (ic I M):=by
 have hP:=hm.pls
 have a1:=add_i 5 (by omega)
 unfold a54_B1
 exact ⟨_,_,by simp only [KK,Nat.reduceEqDiff,Int.reduceLT,Int.reduceLE,Nat.reduceAdd,Nat.reduceLeDiff,Nat.reduceLT,Int.reduceToNat,Nat.mul_one,opE_idxA,ixR_one,hk,hL,hc,n6,ad56]; rfl,by simp only [keepT,List.map,look_set,look_cons,in_int,in_agg,in_loc,Nat.reduceEqDiff,if_true,if_false,List.contains_cons,List.contains_nil,beq_self_eq_true,Bool.or_false],by simp only [lookL_cons,if_true]⟩
theorem chk_bad5 (N:Nat) (again:AC→St→Option (Ex×St)) (m m':Mem) (I:ImV) (M:Img) (hm:IM m I M) (e:Int) (he:decide (e=0)=false) (hc:run A N 185 [.agg (ic I M)] m=some (.int .i64 e,m')) (T:List (Nat×AV)) (L:List (Nat×List AV)) (hk:keepT [1,6,7] [1] T=[(1,.loc 1 0),(6,.agg [.fn 180 [],.fn 181 [],.fn 182 [],.fn 183 [],.fn 184 [],.fn 185 []]),(7,.int .i64 5)]) (hL:lookL L 1=some (ic I M)):
  ∃ T' L',codeEv (run A N) again a54_B1 ⟨18,T,L,m⟩=some (.ret,⟨18,T',L',m'⟩)∧look T' 2=.int .i64 e:=by
 have hP:=hm.pls
 unfold a54_B1
 exact ⟨_,_,by simp only [KK,Nat.reduceEqDiff,Int.reduceLT,Int.reduceLE,Nat.reduceAdd,Nat.reduceLeDiff,Nat.reduceLT,Int.reduceToNat,Nat.mul_one,opE_idxA,ixR_one,hk,hL,hc,n6,he]; rfl,by simp only [look_set,look_cons,Nat.reduceEqDiff,if_true,if_false]⟩
theorem chk_end (N:Nat) (again:AC→St→Option (Ex×St)) (m:Mem) (I:ImV) (M:Img) (hm:IM m I M) (T:List (Nat×AV)) (L:List (Nat×List AV)) (hk:keepT [1,6,7] [1] T=[(1,.loc 1 0),(6,.agg [.fn 180 [],.fn 181 [],.fn 182 [],.fn 183 [],.fn 184 [],.fn 185 []]),(7,.int .i64 6)]) (hL:lookL L 1=some (ic I M)):
  ∃ T' L',codeEv (run A N) again a54_B1 ⟨18,T,L,m⟩=some (.exit 0,⟨18,T',L',m⟩):=by
 have hP:=hm.pls
 unfold a54_B1
 exact ⟨_,_,by simp only [KK,Nat.reduceEqDiff,Int.reduceLT,Nat.reduceLT,hk,hL]; rfl⟩
def Chk (m:Mem):Prop:=m.get 0=some (.cells [.fn 180 [],.fn 181 [],.fn 182 [],.fn 183 [],.fn 184 [],.fn 185 []] false)
theorem chk_loop5 (N:Nat) (m:Mem) (_hT:Tab m) (I:ImV) (M:Img) (hm:IM m I M) (hcs:CapS I.c 4) (h0:sizesP M=true) (h1:funcsP M=true) (_h2:vecsP M=true) (h3:codesP M=true) (_h4:atomsP M=true) (hat:M.atoms.length≤1000000) (hN:65*(M.code.length+20)+100+M.code.length+M.funcs.length+M.vecs.length+M.atoms.length+4200+1≤N) (hmn:m.n+132*M.code.length+10≤2 ^ depth) (T:List (Nat×AV)) (L:List (Nat×List AV)) (hk:keepT [1,6,7] [1] T=[(1,.loc 1 0),(6,.agg [.fn 180 [],.fn 181 [],.fn 182 [],.fn 183 [],.fn 184 [],.fn 185 []]),(7,.int .i64 5)]) (hL:lookL L 1=some (ic I M)) {q:Option (Ex×St)} (hq:codeEv (run A N) (ev A N).2 a54_L1 ⟨18,T,L,m⟩=q):
  ∃ T' L' m',Gr m m' (128*M.code.length+3)∧((q=some (.exit 0,⟨18,T',L',m'⟩)∧(if circlesP M=true then 0 else 13)=(0:Int))∨(q=some (.ret,⟨18,T',L',m'⟩)∧look T' 2=.int .i64 (if circlesP M=true then 0 else 13))):=by
 subst hq
 rw [a54_L1_step]
 have hsz:=of_decide_eq_true (show sizes1 M=true by unfold sizesP at h0; rw [Bool.and_eq_true] at h0; exact h0.1)
 obtain ⟨m',hc,hg⟩:=circles_run N m I M hm hcs (funcs_spans h1) (by omega) (by omega) (calls_in h3) (by omega) hmn
 by_cases hp:circlesP M=true
 ·rw [if_pos hp] at hc
  obtain ⟨T1,L1,e1,e2,e3⟩:=chk_ok5 N (ev A N).2 m m' I M hm hc T L hk hL
  obtain ⟨n,rfl⟩:∃ n,N=n+1:=⟨N - 1,by omega⟩
  rw [e1,if_pos hp]
  dsimp only
  rw [again_of]
  obtain ⟨T',L',e⟩:=chk_end n (ev A n).2 m' I M (hm.ext hg.1) T1 L1 e2 e3
  refine ⟨T',L',m',hg,.inl ⟨?_,rfl⟩⟩
  rw [a54_L1_step,e]
 ·rw [if_neg hp] at hc
  obtain ⟨T',L',e1,e2⟩:=chk_bad5 N (ev A N).2 m m' I M hm 13 (by decide) hc T L hk hL
  exact ⟨T',L',m',hg,.inr ⟨by rw [e1],by rw [if_neg hp]; exact e2⟩⟩
theorem chk_loop4 (N:Nat) (m:Mem) (hT:Tab m) (I:ImV) (M:Img) (hm:IM m I M) (hcs:CapS I.c 4) (h0:sizesP M=true) (h1:funcsP M=true) (h2:vecsP M=true) (h3:codesP M=true) (hat:M.atoms.length≤1000000) (hN:65*(M.code.length+20)+100+M.code.length+M.funcs.length+M.vecs.length+M.atoms.length+4200+2≤N) (hmn:m.n+132*M.code.length+10≤2 ^ depth) (T:List (Nat×AV)) (L:List (Nat×List AV)) (hk:keepT [1,6,7] [1] T=[(1,.loc 1 0),(6,.agg [.fn 180 [],.fn 181 [],.fn 182 [],.fn 183 [],.fn 184 [],.fn 185 []]),(7,.int .i64 4)]) (hL:lookL L 1=some (ic I M)) {q:Option (Ex×St)} (hq:codeEv (run A N) (ev A N).2 a54_L1 ⟨18,T,L,m⟩=q):
  ∃ T' L' m',Gr m m' (128*M.code.length+3)∧((q=some (.exit 0,⟨18,T',L',m'⟩)∧(if atomsP M=true then (if circlesP M=true then 0 else 13) else 2)=(0:Int))∨(q=some (.ret,⟨18,T',L',m'⟩)∧look T' 2=.int .i64 (if atomsP M=true then (if circlesP M=true then 0 else 13) else 2))):=by
 subst hq
 rw [a54_L1_step]
 have hsz:=of_decide_eq_true (show sizes1 M=true by unfold sizesP at h0; rw [Bool.and_eq_true] at h0; exact h0.1)
 have hal:∀ l∈M.atoms,l.length≤4096:=by
  intro l hl
  unfold sizesP at h0
  rw [Bool.and_eq_true] at h0
  obtain ⟨j,hj⟩:=List.getElem?_of_mem hl
  exact of_decide_eq_true ((allI_iff _ _ _).1 h0.2 j l hj)
 have hc:=atoms_run N m I M hm (by omega) hal (by omega)
 by_cases hp:atomsP M=true
 ·rw [if_pos hp] at hc
  obtain ⟨T1,L1,e1,e2,e3⟩:=chk_ok4 N (ev A N).2 m m I M hm hc T L hk hL
  obtain ⟨n,rfl⟩:∃ n,N=n+1:=⟨N - 1,by omega⟩
  rw [e1,if_pos hp]
  dsimp only
  rw [again_of]
  exact chk_loop5 n m hT I M hm hcs h0 h1 h2 h3 hp hat (by omega) hmn T1 L1 e2 e3 rfl
 ·rw [if_neg hp] at hc
  obtain ⟨T',L',e1,e2⟩:=chk_bad4 N (ev A N).2 m m I M hm 2 (by decide) hc T L hk hL
  exact ⟨T',L',m,((Gr.refl m).le (by omega)),.inr ⟨by rw [e1],by rw [if_neg hp]; exact e2⟩⟩
theorem chk_loop3 (N:Nat) (m:Mem) (hT:Tab m) (I:ImV) (M:Img) (hm:IM m I M) (hcs:CapS I.c 4) (h0:sizesP M=true) (h1:funcsP M=true) (h2:vecsP M=true) (hat:M.atoms.length≤1000000) (hN:65*(M.code.length+20)+100+M.code.length+M.funcs.length+M.vecs.length+M.atoms.length+4200+3≤N) (hmn:m.n+132*M.code.length+10≤2 ^ depth) (T:List (Nat×AV)) (L:List (Nat×List AV)) (hk:keepT [1,6,7] [1] T=[(1,.loc 1 0),(6,.agg [.fn 180 [],.fn 181 [],.fn 182 [],.fn 183 [],.fn 184 [],.fn 185 []]),(7,.int .i64 3)]) (hL:lookL L 1=some (ic I M)) {q:Option (Ex×St)} (hq:codeEv (run A N) (ev A N).2 a54_L1 ⟨18,T,L,m⟩=q):
  ∃ T' L' m',Gr m m' (128*M.code.length+3)∧((q=some (.exit 0,⟨18,T',L',m'⟩)∧(if codesP M=true then (if atomsP M=true then (if circlesP M=true then 0 else 13) else 2) else 2)=(0:Int))∨(q=some (.ret,⟨18,T',L',m'⟩)∧look T' 2=.int .i64 (if codesP M=true then (if atomsP M=true then (if circlesP M=true then 0 else 13) else 2) else 2))):=by
 subst hq
 rw [a54_L1_step]
 have hsz:=of_decide_eq_true (show sizes1 M=true by unfold sizesP at h0; rw [Bool.and_eq_true] at h0; exact h0.1)
 have hc:=codes_run N m hT I M hm hcs (funcs_spans h1) (by omega) (by omega) (by omega)
 by_cases hp:codesP M=true
 ·rw [if_pos hp] at hc
  obtain ⟨T1,L1,e1,e2,e3⟩:=chk_ok3 N (ev A N).2 m m I M hm hc T L hk hL
  obtain ⟨n,rfl⟩:∃ n,N=n+1:=⟨N - 1,by omega⟩
  rw [e1,if_pos hp]
  dsimp only
  rw [again_of]
  exact chk_loop4 n m hT I M hm hcs h0 h1 h2 hp hat (by omega) hmn T1 L1 e2 e3 rfl
 ·rw [if_neg hp] at hc
  obtain ⟨T',L',e1,e2⟩:=chk_bad3 N (ev A N).2 m m I M hm 2 (by decide) hc T L hk hL
  exact ⟨T',L',m,((Gr.refl m).le (by omega)),.inr ⟨by rw [e1],by rw [if_neg hp]; exact e2⟩⟩
theorem chk_loop2 (N:Nat) (m:Mem) (hT:Tab m) (I:ImV) (M:Img) (hm:IM m I M) (hcs:CapS I.c 4) (h0:sizesP M=true) (h1:funcsP M=true) (hat:M.atoms.length≤1000000) (hN:65*(M.code.length+20)+100+M.code.length+M.funcs.length+M.vecs.length+M.atoms.length+4200+4≤N) (hmn:m.n+132*M.code.length+10≤2 ^ depth) (T:List (Nat×AV)) (L:List (Nat×List AV)) (hk:keepT [1,6,7] [1] T=[(1,.loc 1 0),(6,.agg [.fn 180 [],.fn 181 [],.fn 182 [],.fn 183 [],.fn 184 [],.fn 185 []]),(7,.int .i64 2)]) (hL:lookL L 1=some (ic I M)) {q:Option (Ex×St)} (hq:codeEv (run A N) (ev A N).2 a54_L1 ⟨18,T,L,m⟩=q):
  ∃ T' L' m',Gr m m' (128*M.code.length+3)∧((q=some (.exit 0,⟨18,T',L',m'⟩)∧(if vecsP M=true then (if codesP M=true then (if atomsP M=true then (if circlesP M=true then 0 else 13) else 2) else 2) else 2)=(0:Int))∨(q=some (.ret,⟨18,T',L',m'⟩)∧look T' 2=.int .i64 (if vecsP M=true then (if codesP M=true then (if atomsP M=true then (if circlesP M=true then 0 else 13) else 2) else 2) else 2))):=by
 subst hq
 rw [a54_L1_step]
 have hsz:=of_decide_eq_true (show sizes1 M=true by unfold sizesP at h0; rw [Bool.and_eq_true] at h0; exact h0.1)
 have hc:=vecs_run N m I M hm (by omega) (by omega)
 by_cases hp:vecsP M=true
 ·rw [if_pos hp] at hc
  obtain ⟨T1,L1,e1,e2,e3⟩:=chk_ok2 N (ev A N).2 m m I M hm hc T L hk hL
  obtain ⟨n,rfl⟩:∃ n,N=n+1:=⟨N - 1,by omega⟩
  rw [e1,if_pos hp]
  dsimp only
  rw [again_of]
  exact chk_loop3 n m hT I M hm hcs h0 h1 hp hat (by omega) hmn T1 L1 e2 e3 rfl
 ·rw [if_neg hp] at hc
  obtain ⟨T',L',e1,e2⟩:=chk_bad2 N (ev A N).2 m m I M hm 2 (by decide) hc T L hk hL
  exact ⟨T',L',m,((Gr.refl m).le (by omega)),.inr ⟨by rw [e1],by rw [if_neg hp]; exact e2⟩⟩
theorem chk_loop1 (N:Nat) (m:Mem) (hT:Tab m) (I:ImV) (M:Img) (hm:IM m I M) (hcs:CapS I.c 4) (h0:sizesP M=true) (hat:M.atoms.length≤1000000) (hN:65*(M.code.length+20)+100+M.code.length+M.funcs.length+M.vecs.length+M.atoms.length+4200+5≤N) (hmn:m.n+132*M.code.length+10≤2 ^ depth) (T:List (Nat×AV)) (L:List (Nat×List AV)) (hk:keepT [1,6,7] [1] T=[(1,.loc 1 0),(6,.agg [.fn 180 [],.fn 181 [],.fn 182 [],.fn 183 [],.fn 184 [],.fn 185 []]),(7,.int .i64 1)]) (hL:lookL L 1=some (ic I M)) {q:Option (Ex×St)} (hq:codeEv (run A N) (ev A N).2 a54_L1 ⟨18,T,L,m⟩=q):
  ∃ T' L' m',Gr m m' (128*M.code.length+3)∧((q=some (.exit 0,⟨18,T',L',m'⟩)∧(if funcsP M=true then (if vecsP M=true then (if codesP M=true then (if atomsP M=true then (if circlesP M=true then 0 else 13) else 2) else 2) else 2) else 2)=(0:Int))∨(q=some (.ret,⟨18,T',L',m'⟩)∧look T' 2=.int .i64 (if funcsP M=true then (if vecsP M=true then (if codesP M=true then (if atomsP M=true then (if circlesP M=true then 0 else 13) else 2) else 2) else 2) else 2))):=by
 subst hq
 rw [a54_L1_step]
 have hsz:=of_decide_eq_true (show sizes1 M=true by unfold sizesP at h0; rw [Bool.and_eq_true] at h0; exact h0.1)
 have hc:=funcs_run N m I M hm (by omega) (by omega)
 by_cases hp:funcsP M=true
 ·rw [if_pos hp] at hc
  obtain ⟨T1,L1,e1,e2,e3⟩:=chk_ok1 N (ev A N).2 m m I M hm hc T L hk hL
  obtain ⟨n,rfl⟩:∃ n,N=n+1:=⟨N - 1,by omega⟩
  rw [e1,if_pos hp]
  dsimp only
  rw [again_of]
  exact chk_loop2 n m hT I M hm hcs h0 hp hat (by omega) hmn T1 L1 e2 e3 rfl
 ·rw [if_neg hp] at hc
  obtain ⟨T',L',e1,e2⟩:=chk_bad1 N (ev A N).2 m m I M hm 2 (by decide) hc T L hk hL
  exact ⟨T',L',m,((Gr.refl m).le (by omega)),.inr ⟨by rw [e1],by rw [if_neg hp]; exact e2⟩⟩
theorem chk_loop0 (N:Nat) (m:Mem) (hT:Tab m) (I:ImV) (M:Img) (hm:IM m I M) (hcs:CapS I.c 4) (hat:M.atoms.length≤1000000) (hN:65*(M.code.length+20)+100+M.code.length+M.funcs.length+M.vecs.length+M.atoms.length+4200+6≤N) (hmn:m.n+132*M.code.length+10≤2 ^ depth) (T:List (Nat×AV)) (L:List (Nat×List AV)) (hk:keepT [1,6,7] [1] T=[(1,.loc 1 0),(6,.agg [.fn 180 [],.fn 181 [],.fn 182 [],.fn 183 [],.fn 184 [],.fn 185 []]),(7,.int .i64 0)]) (hL:lookL L 1=some (ic I M)) {q:Option (Ex×St)} (hq:codeEv (run A N) (ev A N).2 a54_L1 ⟨18,T,L,m⟩=q):
  ∃ T' L' m',Gr m m' (128*M.code.length+3)∧((q=some (.exit 0,⟨18,T',L',m'⟩)∧(if sizesP M=true then (if funcsP M=true then (if vecsP M=true then (if codesP M=true then (if atomsP M=true then (if circlesP M=true then 0 else 13) else 2) else 2) else 2) else 2) else 3)=(0:Int))∨(q=some (.ret,⟨18,T',L',m'⟩)∧look T' 2=.int .i64 (if sizesP M=true then (if funcsP M=true then (if vecsP M=true then (if codesP M=true then (if atomsP M=true then (if circlesP M=true then 0 else 13) else 2) else 2) else 2) else 2) else 3))):=by
 subst hq
 rw [a54_L1_step]
 have hc:=sizes_run N m I M hm (by omega)
 by_cases hp:sizesP M=true
 ·rw [if_pos hp] at hc
  obtain ⟨T1,L1,e1,e2,e3⟩:=chk_ok0 N (ev A N).2 m m I M hm hc T L hk hL
  obtain ⟨n,rfl⟩:∃ n,N=n+1:=⟨N - 1,by omega⟩
  rw [e1,if_pos hp]
  dsimp only
  rw [again_of]
  exact chk_loop1 n m hT I M hm hcs  hp hat (by omega) hmn T1 L1 e2 e3 rfl
 ·rw [if_neg hp] at hc
  obtain ⟨T',L',e1,e2⟩:=chk_bad0 N (ev A N).2 m m I M hm 3 (by decide) hc T L hk hL
  exact ⟨T',L',m,((Gr.refl m).le (by omega)),.inr ⟨by rw [e1],by rw [if_neg hp]; exact e2⟩⟩
theorem icheck_run (N:Nat) (m:Mem) (hT:Tab m) (hch:Chk m) (I:ImV) (M:Img) (hm:IM m I M) (hcs:CapS I.c 4) (hat:M.atoms.length≤1000000) (hN:65*(M.code.length+20)+100+M.code.length+M.funcs.length+M.vecs.length+M.atoms.length+4210≤N) (hmn:m.n+132*M.code.length+10≤2 ^ depth):∃ m',run A N 54 [.agg (ic I M)] m=some (.int .i64 (checkI M),m')∧Gr m m' (128*M.code.length+3):=by
 obtain ⟨n,rfl⟩:∃ n,N=n+1:=⟨N - 1,by omega⟩
 have hP:=hm.pls
 have hg:=hch
 unfold Chk at hg
 rw [run_54]
 unfold fnEv a54
 simp only [KK,Nat.reduceEqDiff,Nat.reduceAdd,Nat.reduceLeDiff,Nat.reduceLT,hg]
 generalize hq:codeEv (run A n) (ev A n).2 a54_L1 _=q
 obtain ⟨T',L',m',h1,⟨rfl,h2⟩ | ⟨rfl,h2⟩⟩:=chk_loop0 n m hT I M hm hcs hat (by omega) hmn _ _ (by simp only [keepT,List.map,look_set,look_cons,in_int,in_agg,in_loc,Nat.reduceEqDiff,if_true,if_false,List.contains_cons,List.contains_nil,beq_self_eq_true,Bool.or_false]) (by simp only [lookL_cons,if_true]) hq
 ·refine ⟨m',?_,h1⟩
  have e:checkI M=0:=h2
  rw [e]
  simp only [look_set,loc_int,Nat.reduceLT,if_true,if_false,Bool.false_eq_true]
 ·refine ⟨m',?_,h1⟩
  have e:look T' 2=.int .i64 (checkI M):=h2
  simp only [loc_int,if_false,Bool.false_eq_true,e]
def spanP (M:Img) (f:Int):Int×Int:=if f < 0∨(M.funcs.length:Int)≤f then (0,0) else (fromP M f.toNat,toP M f.toNat)
theorem span_run (N:Nat) (hN:1≤N) (m:Mem) (I:ImV) (M:Img) (hm:IM m I M) (f:Int) (hl:M.funcs.length≤100000):run A N 65 [.agg (ic I M),.int .i64 f] m=some (.tup [.int .i64 (spanP M f).1,.int .i64 (spanP M f).2],m):=by
 obtain ⟨n,rfl⟩:∃ n,N=n+1:=⟨N - 1,by omega⟩
 have hP:=hm.pls
 rw [run_65]
 cases d1:decide (f < 0)
 ·cases d2:decide ((M.funcs.length:Int)≤f)
  ·have h1:=of_decide_eq_false d1
   have h2:=of_decide_eq_false d2
   obtain ⟨k,rfl⟩:∃ k:Nat,f=(k:Int):=⟨f.toNat,by omega⟩
   have hsp:spanP M (k:Int)=(fromP M k,toP M k):=by
    unfold spanP
    rw [if_neg (by omega),Int.toNat_natCast]
   rw [hsp]
   dsimp only
   unfold fnEv a65
   obtain ⟨x,hx⟩:∃ x,M.funcs[k]?=some x:=⟨_,List.getElem?_eq_getElem (by omega)⟩
   obtain ⟨b,o,cs,ow,e1,e2,_,e3,_,_⟩:=hm.f.ff hx
   have hfr:fromP M k=x.entry:=by unfold fromP; rw [hx]; rfl
   have a1:=add_i k (by omega)
   rw [hfr]
   by_cases h3:k+1 < M.funcs.length
   ·obtain ⟨y,hy⟩:∃ y,M.funcs[k+1]?=some y:=⟨_,List.getElem?_eq_getElem h3⟩
    obtain ⟨b2,o2,cs2,ow2,g1,g2,_,g3,_,_⟩:=hm.f.ff hy
    have hto:toP M k=y.entry:=by unfold toP fromP; rw [if_pos h3,hy]; rfl
    rw [hto]
    have h3':((k+1:Nat):Int) < (M.funcs.length:Int):=by omega
    simp only [KK,Nat.reduceEqDiff,Nat.reduceAdd,Nat.reduceLeDiff,Nat.reduceLT,hP,d1,d2,a1,e1,e2,e3,g1,g2,g3,h3']
   ·have hto:toP M k=M.code.length:=by unfold toP; rw [if_neg h3]
    rw [hto]
    have h3':¬((k+1:Nat):Int) < (M.funcs.length:Int):=by omega
    simp only [KK,Nat.reduceEqDiff,Nat.reduceAdd,Nat.reduceLeDiff,Nat.reduceLT,hP,d1,d2,a1,e1,e2,e3,h3']
  ·have h2:=of_decide_eq_true d2
   have hsp:spanP M f=(0,0):=if_pos (.inr h2)
   rw [hsp]
   unfold fnEv a65
   simp only [KK,Nat.reduceEqDiff,Nat.reduceAdd,Nat.reduceLeDiff,Nat.reduceLT,hP,d1,d2]
 ·have h1:=of_decide_eq_true d1
  have hsp:spanP M f=(0,0):=if_pos (.inl h1)
  rw [hsp]
  unfold fnEv a65
  simp only [KK,Nat.reduceEqDiff,Nat.reduceAdd,Nat.reduceLT,d1]
theorem plain_run (N:Nat) (hN:1≤N) (m:Mem) (I:ImV) (M:Img) (hm:IM m I M) (f:Int):run A N 110 [.agg (ic I M),.int .i64 f] m=some (.bool (plainF M f),m):=by
 obtain ⟨n,rfl⟩:∃ n,N=n+1:=⟨N - 1,by omega⟩
 have hP:=hm.pls
 rw [run_110]
 unfold fnEv a110 plainF
 cases d1:decide (0≤f)
 ·simp only [KK,Nat.reduceEqDiff,Nat.reduceAdd,Nat.reduceLT,d1]
 ·have h1:=of_decide_eq_true d1
  obtain ⟨k,rfl⟩:∃ k:Nat,f=(k:Int):=⟨f.toNat,by omega⟩
  rw [Int.toNat_natCast]
  cases d2:decide ((k:Int) < (M.funcs.length:Int))
  ·have h2:=of_decide_eq_false d2
   rw [List.getElem?_eq_none (by omega)]
   simp only [KK,Nat.reduceEqDiff,Nat.reduceAdd,Nat.reduceLeDiff,Nat.reduceLT,hP,d1,d2]
  ·have h2:=of_decide_eq_true d2
   obtain ⟨x,hx⟩:∃ x,M.funcs[k]?=some x:=⟨_,List.getElem?_eq_getElem (by omega)⟩
   obtain ⟨b,o,cs,ow,e1,e2,_,_,e3,_⟩:=hm.f.ff hx
   rw [hx]
   simp only [KK,Nat.reduceEqDiff,Nat.reduceAdd,Nat.reduceLeDiff,Nat.reduceLT,hP,d1,d2,e1,e2,e3]
def CkOk (m0:Mem) (I:ImV) (M:Img) (NC KC:Nat) (f:Nat) (c:Int):Prop:=∀ (N:Nat) (m:Mem),NC≤N→Ext m0 m→m.n+KC≤2 ^ depth→∃ m',run A N f [.agg (ic I M)] m=some (.int .i64 c,m')∧Gr m m' KC
theorem CkOk.up {m0 m:Mem} {I:ImV} {M:Img} {NC KC f:Nat} {c:Int} (h:CkOk m0 I M NC KC f c) (he:Ext m0 m):CkOk m I M NC KC f c:=fun N m' a b d=>h N m' a (he.trans b) d
def ofR (at':Int):List FF→Nat→Int→Int
 | [],_,b=>b
 | x::r,i,b=>ofR at' r (i+1) (if x.entry≤at' then (i:Int) else b)
def ofS (at':Int) (i:Nat) (x:FF) (b:Int):Stp Int Unit:=.go (if x.entry≤at' then (i:Int) else b)
theorem fold_of (at':Int):∀ (l:List FF) (i:Nat) (b:Int),foldS (ofS at') l i b=.inl (ofR at' l i b)
 | [],_,_=>rfl
 | x::r,i,b=>by simp only [foldS,ofS,ofR]; exact fold_of at' r (i+1) _
def ofP (M:Img) (c at':Int):Int×Bool:=if c=0∧0≤at'∧at' < (M.code.length:Int) then (ofR at' M.funcs 0 0,true) else (0,false)
theorem of_loop (m:Mem) (I:ImV) (M:Img) (hm:IM m I M) (hl:M.funcs.length≤100000) (at':Int) (N:Nat) (T:List (Nat×AV)) (L:List (Nat×List AV)) (hN:M.funcs.length+1≤N) (hk:keepT [1,2,6,24,25] [2] T=[(1,.int .i64 at'),(2,.loc 2 0),(6,.int .i64 0),(24,.int .i64 (M.funcs.length:Int)),(25,.int .i64 0)]) (hL:lookL L 2=some (ic I M)) {q:Option (Ex×St)} (hq:codeEv (run A N) (ev A N).2 a67_L1 ⟨39,T,L,m⟩=q):
  ∃ T' L',q=some (.exit 0,⟨39,T',L',m⟩)∧keepT [6] [] T'=[(6,.int .i64 (ofR at' M.funcs 0 0))]:=by
 have hP:=hm.pls
 have h:=scan0 (A:=A) a67_L1 a67_B1 a67_L1_step (fun i (b:Int) s=>∃ T L,s=⟨39,T,L,m⟩∧keepT [1,2,6,24,25] [2] T=[(1,.int .i64 at'),(2,.loc 2 0),(6,.int .i64 b),(24,.int .i64 (M.funcs.length:Int)),(25,.int .i64 (i:Int))]∧lookL L 2=some (ic I M)) (fun b s=>∃ T L,s=⟨39,T,L,m⟩∧keepT [6] [] T=[(6,.int .i64 b)]) (fun (_:Unit) s=>False) 0 1 (ofS at') M.funcs
  (fun N b s hN ⟨T,L,hs,hk,hL⟩=>by
   subst hs
   have h':¬(M.funcs.length:Int) < (M.funcs.length:Int):=by omega
   unfold a67_B1
   exact ⟨_,by simp only [KK,Nat.reduceEqDiff,Nat.reduceLT,hk,hL,h']; rfl,_,_,rfl,by simp only [keepT,List.map,look_set,look_cons,in_int,Nat.reduceEqDiff,if_true,if_false]⟩)
  (fun N i x b s hN hx ⟨T,L,hs,hk,hL⟩=>by
   subst hs
   have hlt:=(List.getElem?_eq_some_iff.1 hx).1
   have h':(i:Int) < (M.funcs.length:Int):=by omega
   obtain ⟨b2,o,cs,ow,e1,e2,_,e3,_,_⟩:=hm.f.ff hx
   have a1:=add_i i (by omega)
   unfold ofS
   dsimp only
   unfold a67_B1
   cases hd:decide (x.entry≤at')
   ·rw [if_neg (by simpa using hd)]
    exact ⟨_,by simp only [KK,Nat.reduceEqDiff,Nat.reduceAdd,Nat.reduceLeDiff,Nat.reduceLT,hk,hL,h',e1,e2,e3,hd,a1]; rfl,_,_,rfl,by simp only [keepT,List.map,look_set,look_cons,in_int,in_loc,Nat.reduceEqDiff,if_true,if_false,List.contains_cons,List.contains_nil,beq_self_eq_true,Bool.or_false],by simp only [lookL_cons,if_true]⟩
   ·rw [if_pos (by simpa using hd)]
    exact ⟨_,by simp only [KK,Nat.reduceEqDiff,Nat.reduceAdd,Nat.reduceLeDiff,Nat.reduceLT,hk,hL,h',e1,e2,e3,hd,a1]; rfl,_,_,rfl,by simp only [keepT,List.map,look_set,look_cons,in_int,in_loc,Nat.reduceEqDiff,if_true,if_false,List.contains_cons,List.contains_nil,beq_self_eq_true,Bool.or_false],by simp only [lookL_cons,if_true]⟩)
  N 0 ⟨39,T,L,m⟩ (by omega) ⟨T,L,rfl,hk,hL⟩ hq
 rw [fold_of] at h
 obtain ⟨s',e,T',L',rfl,h2⟩:=h
 exact ⟨T',L',e,h2⟩
theorem of_run (N:Nat) (m:Mem) (I:ImV) (M:Img) (hm:IM m I M) (hl:M.funcs.length≤100000) (m0:Mem) (c:Int) (NC KC:Nat) (hck:CkOk m0 I M NC KC 54 c) (he:Ext m0 m) (hmn:m.n+KC≤2 ^ depth) (hN:NC+M.funcs.length+3≤N) (at':Int):
  ∃ m',run A N 67 [.agg (ic I M),.int .i64 at'] m=some (.tup [.int .i64 (ofP M c at').1,.bool (ofP M c at').2],m')∧Gr m m' KC:=by
 obtain ⟨n,rfl⟩:∃ n,N=n+1:=⟨N - 1,by omega⟩
 have hP:=hm.pls
 obtain ⟨m',hc,hg⟩:=hck n m (by omega) he hmn
 refine ⟨m',?_,hg⟩
 have hm':=hm.ext hg.1
 rw [run_67]
 unfold fnEv a67
 cases d0:decide (c=0)
 ·have hz:ofP M c at'=(0,false):=by have:=of_decide_eq_false d0; unfold ofP; rw [if_neg (by omega)]
  rw [hz]
  simp only [KK,Nat.reduceEqDiff,Nat.reduceAdd,Nat.reduceLeDiff,Nat.reduceLT,hc,d0]
 cases d1:decide (at' < 0)
 rotate_left
 ·have hz:ofP M c at'=(0,false):=by have:=of_decide_eq_true d1; unfold ofP; rw [if_neg (by omega)]
  rw [hz]
  simp only [KK,Nat.reduceEqDiff,Nat.reduceAdd,Nat.reduceLeDiff,Nat.reduceLT,hc,d0,d1]
 cases d2:decide ((M.code.length:Int)≤at')
 rotate_left
 ·have hz:ofP M c at'=(0,false):=by have:=of_decide_eq_true d2; unfold ofP; rw [if_neg (by omega)]
  rw [hz]
  simp only [KK,Nat.reduceEqDiff,Nat.reduceAdd,Nat.reduceLeDiff,Nat.reduceLT,hP,hc,d0,d1,d2]
 have hz:ofP M c at'=(ofR at' M.funcs 0 0,true):=by have:=of_decide_eq_true d0; have:=of_decide_eq_false d1; have:=of_decide_eq_false d2; unfold ofP; rw [if_pos (by omega)]
 rw [hz]
 simp only [KK,Nat.reduceEqDiff,Nat.reduceAdd,Nat.reduceLeDiff,Nat.reduceLT,hP,hc,d0,d1,d2]
 generalize hq:codeEv (run A n) (ev A n).2 a67_L1 _=q
 obtain ⟨T',L',rfl,h2⟩:=of_loop m' I M hm' hl at' n _ _ (by omega) (by simp only [keepT,List.map,look_set,look_cons,in_int,in_loc,Nat.reduceEqDiff,if_true,if_false,List.contains_cons,List.contains_nil,beq_self_eq_true,Bool.or_false]) (by simp only [lookL_cons,if_true]) hq
 simp only [KK,Nat.reduceEqDiff,Nat.reduceLT,h2]
def rangeP (M:Img) (c f:Int):Int×Int:=if c=0 then spanP M f else (0,0)
end AG
