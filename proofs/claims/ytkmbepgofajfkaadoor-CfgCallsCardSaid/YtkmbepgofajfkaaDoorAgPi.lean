/- What the functions that read images and paths compute, and the laws of that. -/
import Derived.Test.YtkmbepgofajfkaaDoorAgPh
namespace AG
open Go Go.Proofs.YtkmbepgofajfkaaDoor
set_option maxRecDepth 100000
set_option maxHeartbeats 4000000
def Cp:Nat→Nat
 | 0=>20
 | k+1=>20+2*Cp k
def Lp:Nat→Nat
 | 0=>1
 | k+1=>1+2*Lp k
theorem flat_le {α β:Type} (f:α→List β) (c:Nat):∀ l:List α,(∀ x∈l,(f x).length≤c)→(l.flatMap f).length≤l.length*c
 | [],_=>by simp
 | x::r,h=>by
  have h1:=h x (by simp)
  have h2:=flat_le f c r (fun y hy=>h y (List.mem_cons_of_mem _ hy))
  rw [List.flatMap_cons,List.length_append,List.length_cons,Nat.add_mul,Nat.one_mul]
  omega
theorem ptree_len (M:Img):∀ (k:Nat) (way:List Int) (a:Nat),(ptree M k way a).length≤Lp k
 | 0,_,_=>Nat.le_refl _
 | k+1,way,a=>by
  have h1:=flat_le (fun n:Int=>ptree M k (way++[n]) n.toNat) (Lp k) (nextAt M a) (fun x _=>ptree_len M k _ _)
  have h2:(nextAt M a).length≤2:=by
   unfold nextAt
   split
   ·exact nextI_len _ _
   ·simp
  have h3:=Nat.mul_le_mul_right (Lp k) h2
  rw [ptree,List.length_cons,Lp]
  omega
def RecP (m0:Mem) (I:ImV) (M:Img) (most:Int) (n1 Q1 Q2 Q3 Q4:Nat) (k:Nat):Prop:=
 ∀ (N:Nat) (m:Mem) (a:AV) (ws:List AV) (ls:List (List Int)) (b:Nat) (cap:Option Nat) (way:List Int) (last:Nat),30+8*k≤N→PS m0 I M most n1 Q1 Q2 Q3 Q4 m a ws ls→(cap=none∨cap=some way.length)→m.get b=some (.cells (way.map fun z=>AV.int .i64 z) true)→n1≤b→blkOf a≠some b→
  way[way.length - 1]?=some (last:Int)→last < M.code.length→(way.length:Int)+k=most→m.n+Cp k+20≤2 ^ depth→ls.length+Lp k≤100000→
  ∃ m' a' ws',run A N 85 [.slice b 0 way.length cap 1,.ptr Q1 0,.ptr Q2 0,.ptr Q3 0,.ptr Q4 0] m=some (.tup [],m')∧PS m0 I M most n1 Q1 Q2 Q3 Q4 m' a' ws' (ls++ptree M k way last)∧(∀ j,j < m.n→j≠Q1→blkOf a≠some j→m'.get j=m.get j)∧(∀ c,blkOf a'=some c→m.n≤c)∧m.n≤m'.n∧m'.n≤m.n+Cp k
theorem on_body (k:Nat) (m0:Mem) (I:ImV) (M:Img) (most:Int) (n1 Q1 Q2 Q3 Q4:Nat) (hrec:RecP m0 I M most n1 Q1 Q2 Q3 Q4 k) (N:Nat) (hN:30+8*k≤N) (m1:Mem) (a:AV) (ws:List AV) (ls:List (List Int)) (b:Nat) (cap:Option Nat) (way:List Int) (hp:PS m0 I M most n1 Q1 Q2 Q3 Q4 m1 a ws ls) (hcap:cap=none∨cap=some way.length) (hg:m1.get b=some (.cells (way.map fun z=>AV.int .i64 z) true)) (_hb1:n1≤b) (_hba:blkOf a≠some b) (hlw:way.length≤900) (hkm:((way.length+1:Nat):Int)+k=most)
  (u:AV) (l:List Int) (hu:RS (fun z=>[AV.int .i64 z]) 1 m1 u l) (i:Nat) (x:Int) (hx:l[i]?=some x) (hxr:0≤x∧x < (M.code.length:Int)) (hll:l.length≤100) (hmn:m1.n+Cp k+25≤2 ^ depth) (hls:ls.length+Lp k≤100000) (T:List (Nat×AV)) (L:List (Nat×List AV)) (hk:keepT [0,4,24,25,26] [] T=[(0,.slice b 0 way.length cap 1),(4,.ptr Q4 0),(24,u),(25,.int .i64 (l.length:Int)),(26,.int .i64 (i:Int))]):
  ∃ T' L' m' a' ws',codeEv (run A N) (ev A N).2 a85_B1 ⟨42,T,L,m1⟩=some (.norm,⟨42,T',L',m'⟩)∧keepT [0,4,24,25,26] [] T'=[(0,.slice b 0 way.length cap 1),(4,.ptr Q4 0),(24,u),(25,.int .i64 (l.length:Int)),(26,.int .i64 ((i+1:Nat):Int))]∧PS m0 I M most n1 Q1 Q2 Q3 Q4 m' a' ws' (ls++ptree M k (way++[x]) x.toNat)∧(∀ j,j < m1.n→j≠Q1→blkOf a≠some j→m'.get j=m1.get j)∧(∀ c,blkOf a'=some c→m1.n≤c)∧m1.n≤m'.n∧m'.n≤m1.n+2+Cp k:=by
 obtain ⟨u1,u2,u3,u4⟩:=hu.plain
 have lu:=hu.lenR
 have hlt:=(List.getElem?_eq_some_iff.1 hx).1
 have h':(i:Int) < (l.length:Int):=by omega
 obtain ⟨b3,o3,cs3,ow3,e1,e2,e3⟩:=hu.at hx
 have a1:=add_i i (by omega)
 have hf1:m1.full=false:=not_full (by omega)
 have happ:=app_cut hg x (by omega) (by omega)
 have hcut:=fun s=>cut_way (_m:=m1) (b:=b) (way:=way) hcap s
 have x1:Ext m1 (m1.push (.cells [.int .i64 x] true)):=(Ext.refl m1).push _ (by omega)
 have x2:Ext m1 ((m1.push (.cells [.int .i64 x] true)).push (.cells ((way++[x]).map fun z=>AV.int .i64 z) true)):=x1.push _ (by rw [push_n]; omega)
 have hp2:=hp.up x2
 have hnn:=hp.nn
 have hos:=hp.os.same.2
 have hlen1:(way++[x]).length=way.length+1:=by simp
 obtain ⟨m',a',ws',hr,hp',hfr,hfa,hn1,hn2⟩:=hrec N _ a ws ls (m1.n+1) none (way++[x]) x.toNat (by omega) hp2 (.inl rfl) (by have:=Mem.get_push_new (m:=m1.push (.cells [.int .i64 x] true)) (.cells ((way++[x]).map fun z=>AV.int .i64 z) true); rw [push_n] at this; exact this) (by omega) (fun e=>by have:=(hos _ e).2; omega) (by rw [hlen1,Nat.add_sub_cancel,List.getElem?_append_right (Nat.le_refl _),Nat.sub_self]; simp; omega) (by omega) (by rw [hlen1]; exact hkm) (by rw [push_n,push_n]; omega) hls
 rw [hlen1] at hr
 rw [push_n,push_n] at hfr hfa hn1 hn2
 have hg4:=hp.g4
 have hsm:sameRead (m1.push (.cells [.int .i64 x] true)) ((m1.push (.cells [.int .i64 x] true)).push (.cells ((way++[x]).map fun z=>AV.int .i64 z) true)) (.ptr Q4 0) 1=true:=
  same_read ((x1.2 _ (Mem.get_lt hg4)).trans hg4) ((x2.2 _ (Mem.get_lt hg4)).trans hg4) rfl (by simp [eqV,eqL])
 have hlog:logOk [Acc.rw (.ptr Q4 0) 1 false,Acc.eff (m1.push (.cells [.int .i64 x] true)) ((m1.push (.cells [.int .i64 x] true)).push (.cells ((way++[x]).map fun z=>AV.int .i64 z) true))]=true:=by
  simp only [logOk,List.all_cons,List.all_nil,accFit,hsm,Bool.and_true,Bool.and_self,beq_self_eq_true,Bool.true_or]
 refine ⟨_,_,m',a',ws',by
  unfold a85_B1
  simp only [KK,opE_mkslc,Nat.reduceEqDiff,Nat.reduceAdd,Nat.reduceLeDiff,Nat.reduceLT,Nat.reducePow,Nat.mul_one,opE_slcL,AOp.kd,kd_rm,Option.map_none,hk,h',e1,e2,e3,u1,hg4,hcut,hf1,zer1,happ,hlog,hr,a1]; rfl,by simp only [keepT,List.map,look_set,look_cons,in_int,in_ptr,in_slice,Nat.reduceEqDiff,if_true,if_false,u1],hp',fun j hj hq hb=>(hfr j (by omega) hq hb).trans (x2.2 j hj),fun c hc=>by have:=hfa c hc; omega,by omega,by omega⟩
def appL {α β:Type} (g:α→List β) (_:Nat) (x:α) (acc:List β):Stp (List β) Unit:=.go (acc++g x)
theorem fold_appL {α β:Type} (g:α→List β):∀ (l:List α) (i:Nat) (acc:List β),foldS (appL g) l i acc=.inl (acc++l.flatMap g)
 | [],i,acc=>by simp [foldS]
 | x::r,i,acc=>by
  simp only [foldS,appL]
  rw [fold_appL g r (i+1) _]
  simp
theorem sub_1 (n:Nat) (h:n≠0) (h2:n≤100000):binEv .sub (.int .i64 (n:Int)) (.int .i64 1)=some (.int .i64 ((n - 1:Nat):Int)):=by
 simp only [binEv,if_true,intBin,IntKind.wrap,IntKind.bits]
 simp [IntKind.signed]
 omega
theorem zerN:zerosEv [AV.nils] 1=[.nils]:=rfl
theorem on_fn (m0:Mem) (I:ImV) (M:Img) (most:Int) (n1 Q1 Q2 Q3 Q4:Nat) (hm0:IM m0 I M) (hT:Tab m0) (hco:CodesOk M) (hin:NextIn M) (hlc:M.code.length≤100000) (hmost:most≤900) (kk:Nat) (hrec:∀ k,kk=k+1→RecP m0 I M most n1 Q1 Q2 Q3 Q4 k):RecP m0 I M most n1 Q1 Q2 Q3 Q4 kk:=by
 intro N m a ws ls b cap way last hN hp hcap hg hb1 hba hlast hlc2 hkm hmn hls
 obtain ⟨n,rfl⟩:∃ n,N=n+1:=⟨N - 1,by omega⟩
 have hne:way.length≠0:=by
  intro h
  have:way=[]:=List.length_eq_zero_iff.1 h
  rw [this] at hlast
  simp at hlast
 have hnn:=hp.nn
 have hCk:20≤Cp kk:=by cases kk <;> simp [Cp]
 have hLk:1≤Lp kk:=by cases kk <;> simp [Lp]
 have hos:=hp.os.same
 have hQ:=hp.hi
 have hcl:=clone_run n (by omega) m b way cap true hg hne (by omega) (by omega)
 have x1:Ext m (m.push (.cells [] true)):=(Ext.refl m).push _ (by omega)
 have x2:Ext m ((m.push (.cells [] true)).push (.cells (way.map fun z=>AV.int .i64 z) true)):=x1.push _ (by rw [push_n]; omega)
 have hpC:=hp.up x2
 have hnew:((m.push (.cells [] true)).push (.cells (way.map fun z=>AV.int .i64 z) true)).get (m.n+1)=some (.cells (way.map fun z=>AV.int .i64 z) true):=by
  have:=Mem.get_push_new (m:=m.push (.cells [] true)) (.cells (way.map fun z=>AV.int .i64 z) true)
  rw [push_n] at this
  exact this
 have hnC:((m.push (.cells [] true)).push (.cells (way.map fun z=>AV.int .i64 z) true)).n=m.n+2:=by rw [push_n,push_n]
 generalize hmC:(m.push (.cells [] true)).push (.cells (way.map fun z=>AV.int .i64 z) true)=mC at*
 have hwr:RS (fun z=>[AV.int .i64 z]) 1 mC (.slice (m.n+1) 0 way.length none 1) way:=.inr ⟨m.n+1,0,none,1,rfl,fun i z hz=>⟨_,_,hnew,by
  rw [Nat.zero_add,Nat.mul_one]
  apply cells_one
  rw [List.getElem?_map,hz]; rfl⟩⟩
 obtain ⟨m2,ha2,hq2,hn2,hp3,hk3⟩:=hpC.add hwr (fun c hc=>by
  cases hc
  exact ⟨by omega,by omega,fun e=>by have:=(hos.2 _ e).2; omega⟩) (by omega) (by rw [hp.rows.1]; omega)
 have hsm:sameRead m mC (.ptr Q1 0) 1=true:=same_read hp.g1 hpC.g1 rfl hos.1
 have hlog:logOk [Acc.rw (.ptr Q1 0) 1 false,Acc.eff m mC]=true:=by
  simp only [logOk,List.all_cons,List.all_nil,accFit,hsm,Bool.and_true,Bool.and_self,beq_self_eq_true,Bool.true_or]
 have hfC:mC.full=false:=not_full (by omega)
 have hg1:=hp.g1
 have hg2:(m2.set Q1 (.cells [.slice (mC.n+1) 0 (ws.length+1) none 1] true)).get Q2=some (.cells [.int .i64 most] true):=hp3.g2
 have hn3:(m2.set Q1 (.cells [.slice (mC.n+1) 0 (ws.length+1) none 1] true)).n=m.n+4:=by rw [set_n]; omega
 have hg3:=hp3.g3
 have hfr3:∀ j,j < m.n→j≠Q1→blkOf a≠some j→(m2.set Q1 (.cells [.slice (mC.n+1) 0 (ws.length+1) none 1] true)).get j=m.get j:=fun j hj hq hb=>(hk3 j (by omega) hq hb).trans (x2.2 j hj)
 have hb3:(m2.set Q1 (.cells [.slice (mC.n+1) 0 (ws.length+1) none 1] true)).get b=some (.cells (way.map fun z=>AV.int .i64 z) true):=(hfr3 b (Mem.get_lt hg) (by omega) hba).trans hg
 have hbl:=Mem.get_lt hg
 obtain ⟨a1,a2,a3,a4⟩:=(show OS 1 n1 m a ws ws.length from hp.os).plain
 generalize hm3:m2.set Q1 (.cells [.slice (mC.n+1) 0 (ws.length+1) none 1] true)=m3 at*
 rw [run_85]
 unfold fnEv a85
 cases kk with
 | zero=>
  have hd:decide ((way.length:Int)=most)=true:=decide_eq_true (by omega)
  refine ⟨m3,_,_,?_,hp3,hfr3,fun c hc=>by cases hc; omega,by omega,by simp only [Cp]; omega⟩
  simp only [KK,opE_mkslc,Nat.reduceEqDiff,Nat.reduceAdd,Nat.reduceLeDiff,Nat.reduceLT,Nat.reducePow,Nat.mul_one,AOp.kd,kd_rm,kd_sm,hg1,hcl,hfC,zerN,ha2,hq2,hlog,hm3,hg2,hd]
 | succ k=>
  have hrk:=hrec k rfl
  have hd:decide ((way.length:Int)=most)=false:=decide_eq_false (by omega)
  obtain ⟨x,hx⟩:∃ x,M.code[last]?=some x:=⟨_,List.getElem?_eq_getElem hlc2⟩
  have hRS:RS (fun z=>[AV.int .i64 z]) 1 m3 (.slice b 0 way.length cap 1) way:=.inr ⟨b,0,cap,1,rfl,fun i z hz=>⟨_,_,hb3,by
   rw [Nat.zero_add,Nat.mul_one]
   apply cells_one
   rw [List.getElem?_map,hz]; rfl⟩⟩
  obtain ⟨b6,o6,cs6,ow6,e1,e2,e3⟩:=hRS.at hlast
  have hs1:=sub_1 way.length hne (by omega)
  obtain ⟨u,m4,hr4,hu4,hg4,hfar4⟩:=next_run n (by omega) m3 I M (hm0.ext hp3.ext) (hT.ext hp3.ext) last x hx (hco last x hx) (by omega) (by omega)
  obtain ⟨u1,u2,u3,u4⟩:=hu4.plain
  have lu:=hu4.lenR
  have hp4:=hp3.up hg4.1
  have hn4:=hg4.2
  have hn4':=hg4.1.1
  have hl2:=nextI_len x last
  have hxl:∀ z∈nextI x last,0≤z∧z < (M.code.length:Int):=hin last x hx
  have hpt:ptree M (k+1) way last=way::(nextI x last).flatMap fun z=>ptree M k (way++[z]) z.toNat:=by
   rw [ptree]
   unfold nextAt
   rw [hx]
  rw [hpt]
  have hb4:m4.get b=some (.cells (way.map fun z=>AV.int .i64 z) true):=(hg4.1.2 b (Mem.get_lt hb3)).trans hb3
  have hlen3:(ls++[way]).length=ls.length+1:=by simp
  simp only [Cp] at hmn hCk ⊢
  simp only [Lp] at hls hLk
  generalize nextI x last=l at*
  simp only [KK,opE_mkslc,Nat.reduceEqDiff,Nat.reduceAdd,Nat.reduceLeDiff,Nat.reduceLT,Nat.reducePow,Nat.mul_one,AOp.kd,kd_rm,kd_sm,logOk_nil',hg1,hcl,hfC,zerN,ha2,hq2,hlog,hm3,hg2,hd,hg3,e1,e2,e3,hs1,hr4,lu]
  generalize hq:codeEv (run A n) (ev A n).2 a85_L1 _=q
  have h:=scan0 (A:=A) a85_L1 a85_B1 a85_L1_step (fun i (acc:List (List Int)) s=>∃ T L m5 a5 ws5,s=⟨42,T,L,m5⟩∧keepT [0,4,24,25,26] [] T=[(0,.slice b 0 way.length cap 1),(4,.ptr Q4 0),(24,u),(25,.int .i64 (l.length:Int)),(26,.int .i64 (i:Int))]∧PS m0 I M most n1 Q1 Q2 Q3 Q4 m5 a5 ws5 acc∧(∀ j,j < m4.n→j≠Q1→(AV.slice (mC.n+1) 0 (ws.length+1) none 1 |> blkOf)≠some j→m5.get j=m4.get j)∧(blkOf a5=some (mC.n+1)∨∀ c,blkOf a5=some c→m4.n≤c)∧m4.n≤m5.n∧m5.n≤m4.n+i*(2+Cp k)∧acc.length≤ls.length+1+i*Lp k∧i≤l.length)
   (fun acc s=>∃ T L m5 a5 ws5,s=⟨42,T,L,m5⟩∧PS m0 I M most n1 Q1 Q2 Q3 Q4 m5 a5 ws5 acc∧(∀ j,j < m4.n→j≠Q1→(AV.slice (mC.n+1) 0 (ws.length+1) none 1 |> blkOf)≠some j→m5.get j=m4.get j)∧(blkOf a5=some (mC.n+1)∨∀ c,blkOf a5=some c→m4.n≤c)∧m4.n≤m5.n∧m5.n≤m4.n+l.length*(2+Cp k)) (fun (_:Unit) s=>False) 0 (30+8*k) (appL fun z=>ptree M k (way++[z]) z.toNat) l
   (fun N acc s hN ⟨T,L,m5,a5,ws5,hs,hk,hp5,hf5,ha5,hn5,hn6,hacc,hi⟩=>by
    subst hs
    have h':¬(l.length:Int) < (l.length:Int):=by omega
    unfold a85_B1
    exact ⟨_,by simp only [KK,Nat.reduceEqDiff,Nat.reduceLT,hk,h']; rfl,_,_,_,_,_,rfl,hp5,hf5,ha5,hn5,hn6⟩)
   (fun N i z acc s hN hz ⟨T,L,m5,a5,ws5,hs,hk,hp5,hf5,ha5,hn5,hn6,hacc,hi⟩=>by
    subst hs
    have hzi:=(List.getElem?_eq_some_iff.1 hz).1
    have hmul1:=Nat.mul_le_mul_right (2+Cp k) (show i+1≤2 by omega)
    have hmul2:=Nat.mul_le_mul_right (Lp k) (show i+1≤2 by omega)
    rw [Nat.add_mul,Nat.one_mul] at hmul1 hmul2
    have hnb:∀ c,n1≤c→c < m4.n→c≠mC.n+1→m5.get c=m4.get c:=fun c h1 h2 h3=>hf5 c h2 (by omega) (by simp only [blkOf,ne_eq,Option.some.injEq]; omega)
    have hab5:∀ c,c < m4.n→c≠mC.n+1→blkOf a5≠some c:=by
     intro c h1 h2 e
     rcases ha5 with h | h
     ·rw [h] at e; cases e; exact h2 rfl
     ·have:=h c e; omega
    have hb5:m5.get b=some (.cells (way.map fun z=>AV.int .i64 z) true):=(hnb b hb1 (by omega) (by omega)).trans hb4
    have hu5:RS (fun z=>[AV.int .i64 z]) 1 m5 u l:=hu4.frame fun c hc hcu=>hnb c (by have:=hfar4 c hcu; omega) hc (by have:=hfar4 c hcu; omega)
    obtain ⟨T',L',m6,a6,ws6,r1,r2,r3,r4,r5,r6,r7⟩:=on_body k m0 I M most n1 Q1 Q2 Q3 Q4 hrk N hN m5 a5 ws5 acc b cap way hp5 hcap hb5 hb1 (hab5 b (by omega) (by omega)) (by omega) (by omega) u l hu5 i z hz (hxl z (List.mem_of_getElem? hz)) (by omega) (by omega) (by omega) T L hk
    have hpl:=ptree_len M k (way++[z]) z.toNat
    unfold appL
    refine ⟨_,r1,_,_,_,_,_,rfl,r2,r3,fun j hj hq1 hbj=>(r4 j (by omega) hq1 (hab5 j hj (fun e=>hbj (by rw [e]; rfl)))).trans (hf5 j hj hq1 hbj),.inr fun c hc=>by have:=r5 c hc; omega,by omega,by rw [Nat.add_mul,Nat.one_mul]; omega,by rw [List.length_append,Nat.add_mul,Nat.one_mul]; (try dsimp only); omega,by omega⟩)
   n (ls++[way]) _ (by omega) ⟨_,_,m4,_,_,rfl,by simp only [keepT,List.map,look_set,look_cons,in_int,in_ptr,in_slice,Nat.reduceEqDiff,if_true,if_false,u1]; rfl,hp4,fun _ _ _ _=>rfl,.inl rfl,Nat.le_refl _,by omega,by omega,by omega⟩ hq
  rw [fold_appL] at h
  obtain ⟨s',rfl,T',L',m5,a5,ws5,rfl,hp5,hf5,ha5,hn5,hn6⟩:=h
  have hmul:=Nat.mul_le_mul_right (2+Cp k) hl2
  refine ⟨m5,a5,ws5,by simp only [if_true],?_,fun j hj hq1 hbj=>?_,fun c hc=>?_,by omega,by omega⟩
  ·have e:ls++(way::l.flatMap fun z=>ptree M k (way++[z]) z.toNat)=(ls++[way])++l.flatMap fun z=>ptree M k (way++[z]) z.toNat:=by simp
   rw [e]
   exact hp5
  ·rw [hf5 j (by omega) hq1 (by simp only [blkOf,ne_eq,Option.some.injEq]; omega),hg4.1.2 j (by omega)]
   exact hfr3 j hj hq1 hbj
  ·rcases ha5 with h | h
   ·rw [h] at hc; cases hc; omega
   ·have:=h c hc; omega
theorem on_run (m0:Mem) (I:ImV) (M:Img) (most:Int) (n1 Q1 Q2 Q3 Q4:Nat) (hm0:IM m0 I M) (hT:Tab m0) (hco:CodesOk M) (hin:NextIn M) (hlc:M.code.length≤100000) (hmost:most≤900):∀ k,RecP m0 I M most n1 Q1 Q2 Q3 Q4 k
 | 0=>on_fn m0 I M most n1 Q1 Q2 Q3 Q4 hm0 hT hco hin hlc hmost 0 (fun k hk=>by omega)
 | k+1=>on_fn m0 I M most n1 Q1 Q2 Q3 Q4 hm0 hT hco hin hlc hmost (k+1) (fun j hj=>by
  obtain rfl:j=k:=by omega
  exact on_run m0 I M most n1 Q1 Q2 Q3 Q4 hm0 hT hco hin hlc hmost j)
theorem min12 (k:Int):minEv (.int .i64 k) [.int .i64 12]=some (.int .i64 (if 12 < k then 12 else k)):=rfl
theorem paths_zero (N:Nat) (hN:2≤N) (m:Mem) (I:ImV) (M:Img) (hm:IM m I M) (f most:Int) (hmost:most < 1) (hmn:m.n+3≤2 ^ depth):∃ m',run A N 44 [.agg (ic I M),.int .i64 f,.int .i64 most] m=some (.nils,m')∧Gr m m' 2:=by
 obtain ⟨n,rfl⟩:∃ n,N=n+1:=⟨N - 1,by omega⟩
 have hP:=hm.pls
 have hf:=not_full (m:=m) (by omega)
 have x1:Ext m (m.push (.cells (ic I M) true)):=(Ext.refl m).push _ (by omega)
 have hf2:=not_full (m:=m.push (.cells (ic I M) true)) (by rw [push_n]; omega)
 have x2:Ext m ((m.push (.cells (ic I M) true)).push (.cells [.int .i64 most] true)):=x1.push _ (by rw [push_n]; omega)
 have g3:((m.push (.cells (ic I M) true)).push (.cells [.int .i64 most] true)).get m.n=some (.cells (ic I M) true):=(Mem.get_push_old _ hf2 (by rw [push_n]; omega)).trans (Mem.get_push_new _)
 have g2:((m.push (.cells (ic I M) true)).push (.cells [.int .i64 most] true)).get (m.n+1)=some (.cells [.int .i64 most] true):=by
  have:=Mem.get_push_new (m:=m.push (.cells (ic I M) true)) (.cells [.int .i64 most] true)
  rw [push_n] at this
  exact this
 have hn2:((m.push (.cells (ic I M) true)).push (.cells [.int .i64 most] true)).n=m.n+2:=by rw [push_n,push_n]
 generalize hm2:(m.push (.cells (ic I M) true)).push (.cells [.int .i64 most] true)=m2 at*
 have hle:m2.n≤2 ^ depth:=by omega
 have hlt:m.n+1 < m2.n:=by omega
 have g2':(m2.set (m.n+1) (.cells [.int .i64 most] true)).get (m.n+1)=some (.cells [.int .i64 most] true):=Mem.get_set_same _ hlt
 have g3':(m2.set (m.n+1) (.cells [.int .i64 most] true)).get m.n=some (.cells (ic I M) true):=(Mem.get_set_ne _ hle hlt (by omega)).trans g3
 have hmin:(if 12 < most then (12:Int) else most)=most:=if_neg (by omega)
 have hd3:decide (most < 1)=true:=decide_eq_true hmost
 refine ⟨m2.set (m.n+1) (.cells [.int .i64 most] true),?_,⟨⟨by rw [set_n]; omega,fun i hi=>(Mem.get_set_ne _ hle hlt (by omega)).trans (x2.2 i hi)⟩,by rw [set_n]; omega⟩⟩
 rw [run_44]
 unfold fnEv a44
 cases d1:decide (f < 0)
 ·cases d2:decide ((M.funcs.length:Int)≤f)
  ·simp only [KK,Nat.reduceEqDiff,Nat.reduceAdd,Nat.reduceLeDiff,Nat.reduceLT,push_n,hP,hf,hf2,push_n,hm2,g2,min12,hmin,g2',g3',d1,d2,hd3]
  ·simp only [KK,Nat.reduceEqDiff,Nat.reduceAdd,Nat.reduceLeDiff,Nat.reduceLT,push_n,hP,hf,hf2,push_n,hm2,g2,min12,hmin,g3',d1,d2]
 ·simp only [KK,Nat.reduceEqDiff,Nat.reduceAdd,Nat.reduceLeDiff,Nat.reduceLT,push_n,hf,hf2,push_n,hm2,g2,min12,hmin,d1]
theorem paths_run (N:Nat) (m:Mem) (I:ImV) (M:Img) (hm:IM m I M) (hT:Tab m) (m0:Mem) (NC KC:Nat) (hck:CkOk m0 I M NC KC 54 0) (he:Ext m0 m) (hco:CodesOk M) (hin:NextIn M) (hlc:M.code.length≤100000) (f:Nat) (hf:f < M.funcs.length) (hfr:0≤fromP M f∧fromP M f < (M.code.length:Int)) (k:Nat) (hk:k≤11)
  (hmn:m.n+KC+Cp k+40≤2 ^ depth) (hN:NC+160≤N) (hLp:Lp k≤100000):
  ∃ v m',run A N 44 [.agg (ic I M),.int .i64 (f:Int),.int .i64 ((k+1:Nat):Int)] m=some (v,m')∧AS m' v (ptree M k [fromP M f] (fromP M f).toNat)∧Gr m m' (KC+Cp k+20):=by
 obtain ⟨n,rfl⟩:∃ n,N=n+1:=⟨N - 1,by omega⟩
 have hP:=hm.pls
 have hf0:=not_full (m:=m) (by omega)
 have x1:Ext m (m.push (.cells (ic I M) true)):=(Ext.refl m).push _ (by omega)
 have hf2:=not_full (m:=m.push (.cells (ic I M) true)) (by rw [push_n]; omega)
 have x2:Ext m ((m.push (.cells (ic I M) true)).push (.cells [.int .i64 ((k+1:Nat):Int)] true)):=x1.push _ (by rw [push_n]; omega)
 have g3:((m.push (.cells (ic I M) true)).push (.cells [.int .i64 ((k+1:Nat):Int)] true)).get m.n=some (.cells (ic I M) true):=(Mem.get_push_old _ hf2 (by rw [push_n]; omega)).trans (Mem.get_push_new _)
 have g2:((m.push (.cells (ic I M) true)).push (.cells [.int .i64 ((k+1:Nat):Int)] true)).get (m.n+1)=some (.cells [.int .i64 ((k+1:Nat):Int)] true):=by
  have:=Mem.get_push_new (m:=m.push (.cells (ic I M) true)) (.cells [.int .i64 ((k+1:Nat):Int)] true)
  rw [push_n] at this
  exact this
 have hn2:((m.push (.cells (ic I M) true)).push (.cells [.int .i64 ((k+1:Nat):Int)] true)).n=m.n+2:=by rw [push_n,push_n]
 generalize hm2:(m.push (.cells (ic I M) true)).push (.cells [.int .i64 ((k+1:Nat):Int)] true)=m2 at*
 have hle:m2.n≤2 ^ depth:=by omega
 have hlt:m.n+1 < m2.n:=by omega
 have g2':(m2.set (m.n+1) (.cells [.int .i64 ((k+1:Nat):Int)] true)).get (m.n+1)=some (.cells [.int .i64 ((k+1:Nat):Int)] true):=Mem.get_set_same _ hlt
 have g3':(m2.set (m.n+1) (.cells [.int .i64 ((k+1:Nat):Int)] true)).get m.n=some (.cells (ic I M) true):=(Mem.get_set_ne _ hle hlt (by omega)).trans g3
 have x3:Ext m (m2.set (m.n+1) (.cells [.int .i64 ((k+1:Nat):Int)] true)):=⟨by rw [set_n]; omega,fun i hi=>(Mem.get_set_ne _ hle hlt (by omega)).trans (x2.2 i hi)⟩
 have hn3:(m2.set (m.n+1) (.cells [.int .i64 ((k+1:Nat):Int)] true)).n=m.n+2:=by rw [set_n]; omega
 have hmin:(if 12 < ((k+1:Nat):Int) then (12:Int) else ((k+1:Nat):Int))=((k+1:Nat):Int):=if_neg (by omega)
 have hd3:decide (((k+1:Nat):Int) < 1)=false:=decide_eq_false (by omega)
 have hd1:decide ((f:Int) < 0)=false:=decide_eq_false (by omega)
 have hd2:decide ((M.funcs.length:Int)≤(f:Int))=false:=decide_eq_false (by omega)
 generalize hm3:m2.set (m.n+1) (.cells [.int .i64 ((k+1:Nat):Int)] true)=m3 at*
 obtain ⟨m4,hc,hg4⟩:=hck n m3 (by omega) (he.trans x3) (by omega)
 have x4:Ext m m4:=x3.trans hg4.1
 have hn4:=hg4.2
 have hn4':=hg4.1.1
 have hf4:=not_full (m:=m4) (by omega)
 have y1:Ext m4 (m4.push (.cells [.nils] true)):=(Ext.refl m4).push _ (by omega)
 have hf5:=not_full (m:=m4.push (.cells [.nils] true)) (by rw [push_n]; omega)
 have y2:Ext m4 ((m4.push (.cells [.nils] true)).push (.cells [.nilf] true)):=y1.push _ (by rw [push_n]; omega)
 have q1:((m4.push (.cells [.nils] true)).push (.cells [.nilf] true)).get m4.n=some (.cells [.nils] true):=(Mem.get_push_old _ hf5 (by rw [push_n]; omega)).trans (Mem.get_push_new _)
 have q4:((m4.push (.cells [.nils] true)).push (.cells [.nilf] true)).get (m4.n+1)=some (.cells [.nilf] true):=by
  have:=Mem.get_push_new (m:=m4.push (.cells [.nils] true)) (.cells [.nilf] true)
  rw [push_n] at this
  exact this
 have hn5:((m4.push (.cells [.nils] true)).push (.cells [.nilf] true)).n=m4.n+2:=by rw [push_n,push_n]
 generalize hm5:(m4.push (.cells [.nils] true)).push (.cells [.nilf] true)=m5 at*
 have hle5:m5.n≤2 ^ depth:=by omega
 have hlt5:m4.n+1 < m5.n:=by omega
 have r4:(m5.set (m4.n+1) (.cells [.fn 85 [.ptr m4.n 0,.ptr (m.n+1) 0,.ptr m.n 0,.ptr (m4.n+1) 0]] true)).get (m4.n+1)=some (.cells [.fn 85 [.ptr m4.n 0,.ptr (m.n+1) 0,.ptr m.n 0,.ptr (m4.n+1) 0]] true):=Mem.get_set_same _ hlt5
 have rs:∀ i,i≠m4.n+1→(m5.set (m4.n+1) (.cells [.fn 85 [.ptr m4.n 0,.ptr (m.n+1) 0,.ptr m.n 0,.ptr (m4.n+1) 0]] true)).get i=m5.get i:=fun i hi=>Mem.get_set_ne _ hle5 hlt5 (fun e=>hi e.symm)
 have hn6:(m5.set (m4.n+1) (.cells [.fn 85 [.ptr m4.n 0,.ptr (m.n+1) 0,.ptr m.n 0,.ptr (m4.n+1) 0]] true)).n=m4.n+2:=by rw [set_n]; omega
 generalize hm6:m5.set (m4.n+1) (.cells [.fn 85 [.ptr m4.n 0,.ptr (m.n+1) 0,.ptr m.n 0,.ptr (m4.n+1) 0]] true)=m6 at*
 have x6:Ext m m6:=⟨by have:=x4.1; omega,fun i hi=>(rs i (by have:=x4.1; omega)).trans ((y2.2 i (by have:=x4.1; omega)).trans (x4.2 i hi))⟩
 have h6_3:m6.get m.n=some (.cells (ic I M) true):=(rs _ (by omega)).trans ((y2.2 _ (by omega)).trans ((hg4.1.2 _ (by omega)).trans g3'))
 have h6_2:m6.get (m.n+1)=some (.cells [.int .i64 ((k+1:Nat):Int)] true):=(rs _ (by omega)).trans ((y2.2 _ (by omega)).trans ((hg4.1.2 _ (by omega)).trans g2'))
 have h6_1:m6.get m4.n=some (.cells [.nils] true):=(rs _ (by omega)).trans q1
 have hps:PS m I M ((k+1:Nat):Int) (m4.n+2) m4.n (m.n+1) m.n (m4.n+1) m6 .nils [] []:=
  ⟨x6,by have:=x4.1; omega,by have:=x4.1; omega,by omega,by omega,h6_1,h6_2,h6_3,r4,.inl ⟨rfl,rfl,rfl⟩,⟨rfl,fun i w l hw=>by simp at hw⟩,fun i w hw=>by simp at hw⟩
 obtain ⟨x,hx⟩:∃ x,M.funcs[f]?=some x:=⟨_,List.getElem?_eq_getElem hf⟩
 obtain ⟨b7,o7,cs7,ow7,e1,e2,_,e3,_,_⟩:=(hm.ext x6).f.ff hx
 have hent:fromP M f=x.entry:=by unfold fromP; rw [hx]; rfl
 have hf6:=not_full (m:=m6) (by omega)
 have z1:Ext m6 (m6.push (.cells [.int .i64 x.entry] true)):=(Ext.refl m6).push _ (by omega)
 have hps2:=hps.up z1
 obtain ⟨last,hlast⟩:∃ j:Nat,x.entry=(j:Int):=⟨x.entry.toNat,by rw [hent] at hfr; omega⟩
 obtain ⟨m7,a7,ws7,hr,hp7,hfr7,_,hn7,hn8⟩:=on_run m I M ((k+1:Nat):Int) (m4.n+2) m4.n (m.n+1) m.n (m4.n+1) hm hT hco hin hlc (by omega) k n _ .nils [] [] m6.n (some 1) [x.entry] last (by omega) hps2 (.inr rfl) (Mem.get_push_new _) (by omega) (by simp [blkOf]) (by rw [hlast]; rfl) (by rw [hent] at hfr; omega) (by simp; omega) (by rw [push_n]; omega) (by simpa using hLp)
 rw [push_n] at hfr7 hn7 hn8
 have hr':run A n 85 [.slice m6.n 0 1 (some 1) 1,.ptr m4.n 0,.ptr (m.n+1) 0,.ptr m.n 0,.ptr (m4.n+1) 0] (m6.push (.cells [.int .i64 x.entry] true))=some (.tup [],m7):=hr
 have hQ1:=hp7.g1
 obtain ⟨s1,s2,s3,s4⟩:=hp7.os.plain
 have hfin:ptree M k [fromP M f] (fromP M f).toNat=[]++ptree M k [x.entry] last:=by
  rw [hent,hlast,Int.toNat_natCast]; rfl
 rw [hfin]
 refine ⟨a7,m7,?_,hp7.rows.as hp7.os,⟨hp7.ext,by omega⟩⟩
 rw [run_44]
 unfold fnEv a44
 simp only [KK,opE_mkslc,Nat.reduceEqDiff,Nat.reduceAdd,Nat.reduceLeDiff,Nat.reduceLT,Nat.reducePow,Nat.mul_one,AOp.kd,kd_rm,logOk_nil',push_n,hP,hf0,hf2,push_n,hm2,g2,min12,hmin,hm3,g2',g3',hd1,hd2,hd3,hc,hf4,hf5,hm5,q4,hm6,h6_3,r4,e1,e2,e3,hf6,zer1,hr',hQ1,s2]
def pickP (n k:Int):Int:=if k < 1 then 0 else if n.tmod k < 0 then n.tmod k+k else n.tmod k
theorem pick_law (n:Int) {k:Int} (hk:1≤k):0≤pickP n k∧pickP n k < k:=by
 unfold pickP
 rw [if_neg (by omega)]
 have h1:=Int.tmod_lt_of_pos n (show 0 < k by omega)
 have h2:-k < n.tmod k:=by
  have:=Int.tmod_lt_of_pos (-n) (show 0 < k by omega)
  rw [Int.neg_tmod] at this
  omega
 split <;> omega
theorem pick_run (N:Nat) (hN:1≤N) (m:Mem) (n' k:Int) (hk:k≤1000000):run A N 38 [.int .i64 n',.int .i64 k] m=some (.int .i64 (pickP n' k),m):=by
 obtain ⟨n,rfl⟩:∃ n,N=n+1:=⟨N - 1,by omega⟩
 rw [run_38]
 unfold fnEv a38 pickP
 cases d1:decide (k < 1)
 ·have q1:=of_decide_eq_false d1
  have hr:binEv .rem (.int .i64 n') (.int .i64 k)=some (.int .i64 (n'.tmod k)):=by
   simp only [binEv,if_true,intBin]
   rw [if_neg (by omega)]
  rw [if_neg q1]
  have h1:=Int.tmod_lt_of_pos n' (show 0 < k by omega)
  have h2:-k < n'.tmod k:=by
   have:=Int.tmod_lt_of_pos (-n') (show 0 < k by omega)
   rw [Int.neg_tmod] at this
   omega
  cases d2:decide (n'.tmod k < 0)
  ·rw [if_neg (of_decide_eq_false d2)]
   simp only [KK,Nat.reduceEqDiff,Nat.reduceAdd,Nat.reduceLT,d1,hr,d2]
  ·have ha:=add_ok (n'.tmod k) k (by omega) (by omega)
   rw [if_pos (of_decide_eq_true d2)]
   simp only [KK,Nat.reduceEqDiff,Nat.reduceAdd,Nat.reduceLT,d1,hr,d2,ha]
 ·rw [if_pos (of_decide_eq_true d1)]
  simp only [KK,Nat.reduceEqDiff,Nat.reduceAdd,Nat.reduceLT,d1]
open Go
open Go
theorem seg_get {M:Img} {f a:Nat} {x:II} (h0:0≤fromP M f) (h1:fromP M f≤a) (h2:(a:Int) < toP M f) (hx:M.code[a]?=some x):(segP M f)[a - (fromP M f).toNat]?=some x:=by
 unfold segP
 rw [List.getElem?_take,if_pos (by omega),List.getElem?_drop,←hx]
 congr 1
 omega
theorem code_at {M:Img} (h:checkI M=0) {a:Nat} {x:II} (hx:M.code[a]?=some x):∃ f,f < M.funcs.length∧fromP M f≤a∧(a:Int) < toP M f∧codeOk x.op x.a x.b x.c=true∧insP M f (fromP M f) (toP M f) x=true∧((a:Int)+1=toP M f→x.op=1∨x.op=15∨x.op=18):=by
 obtain ⟨_,hf,_,hc,_,_⟩:=check_zero h
 have ht:=tiles_of hf
 have hlt:=(List.getElem?_eq_some_iff.1 hx).1
 obtain ⟨f,hfl,_,h1,h2⟩:=ht.of (at':=(a:Int)) (by omega) (by omega)
 have hs:=ht.sp f hfl
 obtain ⟨y,hy⟩:∃ y,M.funcs[f]?=some y:=⟨_,List.getElem?_eq_getElem hfl⟩
 have hb:=(allI_iff _ _ _).1 hc f y hy
 rw [Nat.zero_add] at hb
 unfold bodyP at hb
 rw [Bool.and_eq_true] at hb
 have hq:=(allI_iff _ _ _).1 hb.1 _ x (seg_get hs.1 h1 h2 hx)
 unfold codeP at hq
 rw [Bool.and_eq_true] at hq
 refine ⟨f,hfl,h1,h2,hq.1,hq.2,fun he=>?_⟩
 have hl:=hb.2
 unfold lastP at hl
 have:(toP M f).toNat - 1=a:=by omega
 rw [this,hx] at hl
 simpa using hl
theorem codes_ok {M:Img} (h:checkI M=0):CodesOk M:=fun a x hx=>by
 obtain ⟨f,_,_,_,h1,_⟩:=code_at h hx
 exact h1
theorem mem_nextI {x:II} {a n:Int} (h:n∈nextI x a):(n=a+1∧¬(x.op=1∨x.op=18∨x.op=15))∨(n=x.a∧(x.op=15∨x.op=16)):=by
 unfold nextI at h
 have h1:=mem_compact h
 unfold sortZ at h1
 rw [List.mem_mergeSort] at h1
 unfold outI at h1
 rw [List.mem_append] at h1
 rcases h1 with h1 | h1
 ·split at h1
  ·cases h1
  ·rename_i hh
   exact .inl ⟨by simpa using h1,hh⟩
 ·split at h1
  ·rename_i hh
   exact .inr ⟨by simpa using h1,hh⟩
  ·cases h1
theorem nextI_rise (x:II) (a:Int):(nextI x a).Pairwise (· < ·):=compact_rise (sortZ_rise _)
theorem next_within {M:Img} (h:checkI M=0) {a:Nat} {x:II} (hx:M.code[a]?=some x) {f:Nat} (hf:f < M.funcs.length) (h1:fromP M f≤a∧(a:Int) < toP M f) {n:Int} (hn:n∈nextI x a):fromP M f≤n∧n < toP M f:=by
 obtain ⟨g,hg,g1,g2,_,g4,g5⟩:=code_at h hx
 have ht:=tiles_of (check_zero h).2.1
 obtain rfl:=ht.uniq hf hg h1 ⟨g1,g2⟩
 rcases mem_nextI hn with ⟨rfl,h2⟩ | ⟨rfl,h2⟩
 ·have:¬(a:Int)+1=toP M f:=fun e=>h2 (by have:=g5 e; omega)
  omega
 ·unfold insP at g4
  rcases h2 with h2 | h2
  ·simp [h2] at g4; omega
  ·simp [h2] at g4; omega
theorem next_in {M:Img} (h:checkI M=0):NextIn M:=fun a x hx n hn=>by
 obtain ⟨f,hf,h1,h2,_⟩:=code_at h hx
 have ht:=tiles_of (check_zero h).2.1
 have:=ht.sp f hf
 have:=next_within h hx hf ⟨h1,h2⟩ hn
 omega
theorem nextAt_in {M:Img} (hin:NextIn M) {a:Nat} {n:Int} (h:n∈nextAt M a):0≤n∧n < (M.code.length:Int):=by
 unfold nextAt at h
 cases hx:M.code[a]? with
 | none=>rw [hx] at h; cases h
 | some x=>rw [hx] at h; exact hin a x hx n h
theorem nextAt_rise (M:Img) (a:Nat):(nextAt M a).Pairwise (· < ·):=by
 unfold nextAt
 split
 ·exact nextI_rise _ _
 ·exact List.Pairwise.nil
def LV (m:Mem):Prop:=blocks.length≤m.n∧∀ (i:Nat) (b:ABlk),blocks[i]?=some b→m.get i=some b
theorem LV.ext {m m':Mem} (h:LV m) (k:Ext m m'):LV m':=⟨Nat.le_trans h.1 k.1,fun i b hb=>(k.2 i (by have:=(List.getElem?_eq_some_iff.1 hb).1; have:=h.1; omega)).trans (h.2 i b hb)⟩
theorem lives_run (N:Nat) (hN:1≤N) (m:Mem) (h:LV m):run A N 36 [] m=some (.bool true,m):=by
 obtain ⟨n,rfl⟩:∃ n,N=n+1:=⟨N - 1,by omega⟩
 rw [run_36]
 unfold fnEv a36 primFn
 try dsimp only
 unfold closedEv
 rw [if_pos ⟨rfl,h.1,h.2⟩]
theorem LV.tab {m:Mem} (h:LV m):Tab m∧Chk m:=⟨⟨h.2 _ _ rfl,h.2 _ _ rfl,h.2 _ _ rfl⟩,h.2 _ _ rfl⟩
theorem ick_ok (m:Mem) (h:LV m) (I:ImV) (M:Img) (hm:IM m I M) (hcs:CapS I.c 4) (hat:M.atoms.length≤1000000):CkOk m I M (65*(M.code.length+20)+100+M.code.length+M.funcs.length+M.vecs.length+M.atoms.length+4210) (132*M.code.length+10) 54 (checkI M):=by
 intro N m1 hN he hmn
 obtain ⟨h1,h2⟩:=(h.ext he).tab
 obtain ⟨m',hr,hg⟩:=icheck_run N m1 h1 h2 I M (hm.ext he) hcs hat hN hmn
 exact ⟨m',hr,hg.le (by omega)⟩
structure DS where
 c:List Nat
 l:List Int
 b:List (Int×Int)
def prow (p:Int×Int):List AV:=[.int .i64 p.1,.int .i64 p.2]
def visStep (rec:Nat→DS→DS) (a:Nat) (n:Int) (s:DS):DS:=match s.c[n.toNat]? with
 | some 0=>rec n.toNat s
 | some 1=>⟨s.c,s.l,s.b++[((a:Int),n)]⟩
 | _=>s
def endS (a:Nat) (s:DS):DS:=⟨s.c.set a 2,s.l++[(a:Int)],s.b⟩
def greyS (a:Nat) (s:DS):DS:=⟨s.c.set a 1,s.l,s.b⟩
def visP (nx:Nat→List Int):Nat→Nat→DS→DS
 | 0,_,s=>s
 | k+1,a,s=>endS a ((nx a).foldr (visStep (visP nx k) a) (greyS a s))
structure VQ where
 q1:Nat
 q2:Nat
 q3:Nat
 q4:Nat
 q5:Nat
 cb:Nat
 n1:Nat
structure VM (m0:Mem) (I:ImV) (M:Img) (Q:VQ) (m:Mem) (va vb:AV) (s:DS):Prop where
 ext:Ext m0 m
 lo:m0.n≤Q.q1∧m0.n≤Q.q2∧m0.n≤Q.q3∧m0.n≤Q.q4∧m0.n≤Q.q5∧m0.n≤Q.cb
 hi:Q.q1 < Q.n1∧Q.q2 < Q.n1∧Q.q3 < Q.n1∧Q.q4 < Q.n1∧Q.q5 < Q.n1∧Q.cb < Q.n1
 ne4:Q.q4≠Q.q1∧Q.q4≠Q.q2∧Q.q4≠Q.q3∧Q.q4≠Q.q5∧Q.q4≠Q.cb
 ne5:Q.q5≠Q.q1∧Q.q5≠Q.q2∧Q.q5≠Q.q3∧Q.q5≠Q.cb
 nec:Q.cb≠Q.q1∧Q.cb≠Q.q2∧Q.cb≠Q.q3
 nn:Q.n1≤m.n
 g1:m.get Q.q1=some (.cells [.slice Q.cb 0 s.c.length (some s.c.length) 1] true)
 g2:m.get Q.q2=some (.cells (ic I M) true)
 g3:m.get Q.q3=some (.cells [.fn 113 [.ptr Q.q1 0,.ptr Q.q2 0,.ptr Q.q3 0,.ptr Q.q4 0,.ptr Q.q5 0]] true)
 g4:m.get Q.q4=some (.cells [vb] true)
 g5:m.get Q.q5=some (.cells [va] true)
 gc:m.get Q.cb=some (.cells (u8s s.c) true)
 ol:OS 1 Q.n1 m va (s.l.map fun z=>AV.int .i64 z) s.l.length
 ob:OS 2 Q.n1 m vb (s.b.flatMap prow) s.b.length
 nab:∀ k,blkOf va=some k→blkOf vb≠some k
theorem OS.ext {c n0:Nat} {m m':Mem} {v:AV} {cs:List AV} {n:Nat} (h:OS c n0 m v cs n) (k:Ext m m'):OS c n0 m' v cs n:=by
 rcases h with h | ⟨b,h0,rfl,h1,h2⟩
 ·exact .inl h
 ·exact .inr ⟨b,h0,rfl,(k.2 b (Mem.get_lt h1)).trans h1,h2⟩
theorem OS.keep {c n0:Nat} {m m':Mem} {v:AV} {cs:List AV} {n:Nat} (h:OS c n0 m v cs n) (k:∀ b,blkOf v=some b→m'.get b=m.get b):OS c n0 m' v cs n:=by
 rcases h with h | ⟨b,h0,rfl,h1,h2⟩
 ·exact .inl h
 ·exact .inr ⟨b,h0,rfl,(k b rfl).trans h1,h2⟩
theorem OS.blk {c n0:Nat} {m:Mem} {v:AV} {cs:List AV} {n:Nat} (h:OS c n0 m v cs n):∀ b,blkOf v=some b→n0≤b∧b < m.n:=by
 rcases h with ⟨rfl,_⟩ | ⟨b,h0,rfl,h1,h2⟩
 ·intro b hb; cases hb
 ·intro k hk; cases hk; exact ⟨h0,Mem.get_lt h1⟩
theorem add_os {c n1 bytes:Nat} (hc:0 < c) {m:Mem} {v:AV} {cs:List AV} {n:Nat} (ho:OS c n1 m v cs n) {e:List AV} (he:e.length=c) (h1:e.all AV.one=true) (hmn:m.n+3≤2 ^ depth) (hn:n≤1000000) (hb:bytes≤100) (hn1:n1≤m.n):
  ∃ m2,(∀ sn t q,appEv ⟨sn,t,q,m.push (.cells e true)⟩ none c bytes v (.slice m.n 0 1 (some 1) c)=some (.slice (m.n+1) 0 (n+1) none c,⟨sn,t,q,m2⟩))∧OS c n1 m2 (.slice (m.n+1) 0 (n+1) none c) (cs++e) (n+1)∧m2.n=m.n+2∧(∀ i,i < m.n→blkOf v≠some i→m2.get i=m.get i):=by
 have hf:=not_full (m:=m) (by omega)
 have hbb:2*(n+1)*bytes≤281474976710656:=by
  have:2*(n+1)*bytes≤2*(n+1)*100:=Nat.mul_le_mul_left _ hb
  omega
 obtain ⟨m4,ha,g1,g2,g3,g4⟩:=app_spec2 (ty:=none) (c:=c) (n0:=n1) (bytes:=bytes) hc (ho.push (.cells e true) (by omega)) (by':=m.n) (cp:=some 1) (e:=e) (ow:=true) (Mem.get_push_new _) he h1 (by rw [push_n]; omega) hbb (Nat.le_trans (show n+1≤1000001 by omega) (by decide))
 rw [push_n] at ha g1 g3 g4
 exact ⟨m4,ha,.inr ⟨m.n+1,by omega,rfl,g1,g2⟩,by omega,fun i hi hne=>(g4 i (by omega) hne).trans (Mem.get_push_old _ hf (by omega))⟩
theorem VM.up {m0:Mem} {I:ImV} {M:Img} {Q:VQ} {m m':Mem} {va vb:AV} {s:DS} (h:VM m0 I M Q m va vb s) (k:Ext m m'):VM m0 I M Q m' va vb s where
 ext:=h.ext.trans k
 lo:=h.lo
 hi:=h.hi
 ne4:=h.ne4
 ne5:=h.ne5
 nec:=h.nec
 nn:=Nat.le_trans h.nn k.1
 g1:=(k.2 _ (Mem.get_lt h.g1)).trans h.g1
 g2:=(k.2 _ (Mem.get_lt h.g2)).trans h.g2
 g3:=(k.2 _ (Mem.get_lt h.g3)).trans h.g3
 g4:=(k.2 _ (Mem.get_lt h.g4)).trans h.g4
 g5:=(k.2 _ (Mem.get_lt h.g5)).trans h.g5
 gc:=(k.2 _ (Mem.get_lt h.gc)).trans h.gc
 ol:=h.ol.ext k
 ob:=h.ob.ext k
 nab:=h.nab
def VF (Q:VQ) (va vb:AV) (m m':Mem):Prop:=m.n≤m'.n∧∀ j,j < m.n→j≠Q.cb→j≠Q.q4→j≠Q.q5→blkOf va≠some j→blkOf vb≠some j→m'.get j=m.get j
theorem VM.col {m0:Mem} {I:ImV} {M:Img} {Q:VQ} {m:Mem} {va vb:AV} {s:DS} (h:VM m0 I M Q m va vb s) (c':List Nat) (hl:c'.length=s.c.length) (hm:m.n≤2 ^ depth):VM m0 I M Q (m.set Q.cb (.cells (u8s c') true)) va vb ⟨c',s.l,s.b⟩∧VF Q va vb m (m.set Q.cb (.cells (u8s c') true)):=by
 have hlt:=Mem.get_lt h.gc
 have hk:∀ j,j≠Q.cb→(m.set Q.cb (.cells (u8s c') true)).get j=m.get j:=fun j hj=>Mem.get_set_ne _ hm hlt (fun e=>hj e.symm)
 have hhi:=h.hi
 have hlo:=h.lo
 have hol:=h.ol.blk
 have hob:=h.ob.blk
 refine ⟨{
  ext:=⟨by rw [set_n]; exact h.ext.1,fun i hi=>(hk i (by omega)).trans (h.ext.2 i hi)⟩
  lo:=h.lo
  hi:=h.hi
  ne4:=h.ne4
  ne5:=h.ne5
  nec:=h.nec
  nn:=by rw [set_n]; exact h.nn
  g1:=(hk _ (Ne.symm h.nec.1)).trans (by rw [hl]; exact h.g1)
  g2:=(hk _ (Ne.symm h.nec.2.1)).trans h.g2
  g3:=(hk _ (Ne.symm h.nec.2.2)).trans h.g3
  g4:=(hk _ h.ne4.2.2.2.2).trans h.g4
  g5:=(hk _ h.ne5.2.2.2).trans h.g5
  gc:=Mem.get_set_same _ hlt
  ol:=h.ol.keep fun b hb=>hk b (by have:=(hol b hb).1; omega)
  ob:=h.ob.keep fun b hb=>hk b (by have:=(hob b hb).1; omega)
  nab:=h.nab },by rw [VF,set_n]; exact ⟨Nat.le_refl _,fun j _ hj _ _ _ _=>hk j hj⟩⟩
theorem VM.addb {m0:Mem} {I:ImV} {M:Img} {Q:VQ} {m:Mem} {va vb:AV} {s:DS} (h:VM m0 I M Q m va vb s) (x y:Int) (hmn:m.n+3≤2 ^ depth) (hn:s.b.length≤1000000):
  ∃ m2,(∀ sn t q,appEv ⟨sn,t,q,m.push (.cells [.int .i64 x,.int .i64 y] true)⟩ none 2 16 vb (.slice m.n 0 1 (some 1) 2)=some (.slice (m.n+1) 0 (s.b.length+1) none 2,⟨sn,t,q,m2⟩))∧m2.get Q.q4=some (.cells [vb] true)∧m2.n=m.n+2∧
   VM m0 I M Q (m2.set Q.q4 (.cells [.slice (m.n+1) 0 (s.b.length+1) none 2] true)) va (.slice (m.n+1) 0 (s.b.length+1) none 2) ⟨s.c,s.l,s.b++[(x,y)]⟩∧VF Q va vb m (m2.set Q.q4 (.cells [.slice (m.n+1) 0 (s.b.length+1) none 2] true)):=by
 have hhi:=h.hi
 have hlo:=h.lo
 have hnn:=h.nn
 have hol:=h.ol.blk
 have hob:=h.ob.blk
 obtain ⟨m2,ha,o2,n2,k2⟩:=add_os (c:=2) (bytes:=16) (by omega) h.ob (e:=[.int .i64 x,.int .i64 y]) rfl rfl hmn hn (by omega) hnn
 have hq:∀ q,q < Q.n1→blkOf vb≠some q:=fun q hq e=>by have:=(hob q e).1; omega
 have h4:m2.get Q.q4=some (.cells [vb] true):=(k2 _ (by omega) (hq _ (by omega))).trans h.g4
 have hlt:=Mem.get_lt h4
 have hle:m2.n≤2 ^ depth:=by omega
 have hset:∀ i,i≠Q.q4→(m2.set Q.q4 (.cells [.slice (m.n+1) 0 (s.b.length+1) none 2] true)).get i=m2.get i:=fun i hi=>Mem.get_set_ne _ hle hlt (fun e=>hi e.symm)
 have hk:∀ j,j < m.n→j≠Q.q4→blkOf vb≠some j→(m2.set Q.q4 (.cells [.slice (m.n+1) 0 (s.b.length+1) none 2] true)).get j=m.get j:=fun j hj h1 h2=>(hset j h1).trans (k2 j hj h2)
 refine ⟨m2,ha,h4,n2,{
  ext:=⟨by rw [set_n]; have:=h.ext.1; omega,fun i hi=>(hk i (by have:=h.ext.1; omega) (by omega) (hq i (by omega))).trans (h.ext.2 i hi)⟩
  lo:=h.lo
  hi:=h.hi
  ne4:=h.ne4
  ne5:=h.ne5
  nec:=h.nec
  nn:=by rw [set_n]; omega
  g1:=(hk _ (by omega) (Ne.symm h.ne4.1) (hq _ (by omega))).trans h.g1
  g2:=(hk _ (by omega) (Ne.symm h.ne4.2.1) (hq _ (by omega))).trans h.g2
  g3:=(hk _ (by omega) (Ne.symm h.ne4.2.2.1) (hq _ (by omega))).trans h.g3
  g4:=Mem.get_set_same _ hlt
  g5:=(hk _ (by omega) (Ne.symm h.ne4.2.2.2.1) (hq _ (by omega))).trans h.g5
  gc:=(hk _ (by omega) (Ne.symm h.ne4.2.2.2.2) (hq _ (by omega))).trans h.gc
  ol:=h.ol.keep fun b hb=>hk b (hol b hb).2 (by have:=(hol b hb).1; omega) (h.nab b hb)
  ob:=by
   have e:(s.b++[(x,y)]).flatMap prow=s.b.flatMap prow++[.int .i64 x,.int .i64 y]:=by simp [prow]
   rw [e,List.length_append,List.length_singleton]
   exact o2.keep fun b hb=>hset b (by cases hb; omega)
  nab:=fun k hk e=>by cases e; have:=(hol _ hk).2; omega },by rw [VF,set_n]; exact ⟨by omega,fun j hj _ h4 _ _ h6=>hk j hj h4 h6⟩⟩
theorem VM.addl {m0:Mem} {I:ImV} {M:Img} {Q:VQ} {m:Mem} {va vb:AV} {s:DS} (h:VM m0 I M Q m va vb s) (x:Int) (hmn:m.n+3≤2 ^ depth) (hn:s.l.length≤1000000):
  ∃ m2,(∀ sn t q,appEv ⟨sn,t,q,m.push (.cells [.int .i64 x] true)⟩ none 1 8 va (.slice m.n 0 1 (some 1) 1)=some (.slice (m.n+1) 0 (s.l.length+1) none 1,⟨sn,t,q,m2⟩))∧m2.get Q.q5=some (.cells [va] true)∧m2.n=m.n+2∧
   VM m0 I M Q (m2.set Q.q5 (.cells [.slice (m.n+1) 0 (s.l.length+1) none 1] true)) (.slice (m.n+1) 0 (s.l.length+1) none 1) vb ⟨s.c,s.l++[x],s.b⟩∧VF Q va vb m (m2.set Q.q5 (.cells [.slice (m.n+1) 0 (s.l.length+1) none 1] true)):=by
 have hhi:=h.hi
 have hlo:=h.lo
 have hnn:=h.nn
 have hol:=h.ol.blk
 have hob:=h.ob.blk
 obtain ⟨m2,ha,o2,n2,k2⟩:=add_os (c:=1) (bytes:=8) (by omega) h.ol (e:=[.int .i64 x]) rfl rfl hmn hn (by omega) hnn
 have hq:∀ q,q < Q.n1→blkOf va≠some q:=fun q hq e=>by have:=(hol q e).1; omega
 have h5:m2.get Q.q5=some (.cells [va] true):=(k2 _ (by omega) (hq _ (by omega))).trans h.g5
 have hlt:=Mem.get_lt h5
 have hle:m2.n≤2 ^ depth:=by omega
 have hset:∀ i,i≠Q.q5→(m2.set Q.q5 (.cells [.slice (m.n+1) 0 (s.l.length+1) none 1] true)).get i=m2.get i:=fun i hi=>Mem.get_set_ne _ hle hlt (fun e=>hi e.symm)
 have hk:∀ j,j < m.n→j≠Q.q5→blkOf va≠some j→(m2.set Q.q5 (.cells [.slice (m.n+1) 0 (s.l.length+1) none 1] true)).get j=m.get j:=fun j hj h1 h2=>(hset j h1).trans (k2 j hj h2)
 refine ⟨m2,ha,h5,n2,{
  ext:=⟨by rw [set_n]; have:=h.ext.1; omega,fun i hi=>(hk i (by have:=h.ext.1; omega) (by omega) (hq i (by omega))).trans (h.ext.2 i hi)⟩
  lo:=h.lo
  hi:=h.hi
  ne4:=h.ne4
  ne5:=h.ne5
  nec:=h.nec
  nn:=by rw [set_n]; omega
  g1:=(hk _ (by omega) (Ne.symm h.ne5.1) (hq _ (by omega))).trans h.g1
  g2:=(hk _ (by omega) (Ne.symm h.ne5.2.1) (hq _ (by omega))).trans h.g2
  g3:=(hk _ (by omega) (Ne.symm h.ne5.2.2.1) (hq _ (by omega))).trans h.g3
  g4:=(hk _ (by omega) h.ne4.2.2.2.1 (hq _ (by omega))).trans h.g4
  g5:=Mem.get_set_same _ hlt
  gc:=(hk _ (by omega) (Ne.symm h.ne5.2.2.2) (hq _ (by omega))).trans h.gc
  ol:=by
   rw [List.map_append,List.length_append,List.length_singleton]
   exact o2.keep fun b hb=>hset b (by cases hb; omega)
  ob:=h.ob.keep fun b hb=>hk b (hob b hb).2 (by have:=(hob b hb).1; omega) (fun e=>h.nab b e hb)
  nab:=fun k hk e=>by cases hk; have:=(hob _ e).2; omega },by rw [VF,set_n]; exact ⟨by omega,fun j hj _ _ h5 h6 _=>hk j hj h5 h6⟩⟩
def VStep (Q:VQ) (va vb:AV) (m:Mem) (va' vb':AV) (m':Mem):Prop:=VF Q va vb m m'∧(∀ j,blkOf va'=some j→blkOf va=some j∨m.n≤j)∧(∀ j,blkOf vb'=some j→blkOf vb=some j∨m.n≤j)
theorem VStep.refl (Q:VQ) (va vb:AV) (m:Mem):VStep Q va vb m va vb m:=⟨⟨Nat.le_refl _,fun _ _ _ _ _ _ _=>rfl⟩,fun _ h=>.inl h,fun _ h=>.inl h⟩
theorem VStep.trans {Q:VQ} {va vb va' vb' va'' vb'':AV} {m m' m'':Mem} (h:VStep Q va vb m va' vb' m') (k:VStep Q va' vb' m' va'' vb'' m''):VStep Q va vb m va'' vb'' m'':=by
 obtain ⟨⟨h1,h2⟩,h3,h4⟩:=h
 obtain ⟨⟨k1,k2⟩,k3,k4⟩:=k
 refine ⟨⟨by omega,fun j hj a b c d e=>(k2 j (by omega) a b c (fun x=>?_) (fun x=>?_)).trans (h2 j hj a b c d e)⟩,fun j hj=>?_,fun j hj=>?_⟩
 ·rcases h3 j x with y | y
  ·exact d y
  ·omega
 ·rcases h4 j x with y | y
  ·exact e y
  ·omega
 ·rcases k3 j hj with y | y
  ·exact h3 j y
  ·exact .inr (by omega)
 ·rcases k4 j hj with y | y
  ·exact h4 j y
  ·exact .inr (by omega)
def Safe (Q:VQ) (va vb:AV) (m:Mem) (j:Nat):Prop:=Q.n1≤j∧j < m.n∧blkOf va≠some j∧blkOf vb≠some j
theorem VStep.safe {m0:Mem} {I:ImV} {M:Img} {Q:VQ} {va vb va' vb':AV} {m m':Mem} {s:DS} (hv:VM m0 I M Q m va vb s) (h:VStep Q va vb m va' vb' m') {j:Nat} (k:Safe Q va vb m j):m'.get j=m.get j∧Safe Q va' vb' m' j:=by
 obtain ⟨⟨h1,h2⟩,h3,h4⟩:=h
 obtain ⟨k1,k2,k3,k4⟩:=k
 have hhi:=hv.hi
 refine ⟨h2 j k2 (by omega) (by omega) (by omega) k3 k4,k1,by omega,fun x=>?_,fun x=>?_⟩
 ·rcases h3 j x with y | y
  ·exact k3 y
  ·omega
 ·rcases h4 j x with y | y
  ·exact k4 y
  ·omega
def RecV (m0:Mem) (I:ImV) (M:Img) (Q:VQ) (nx:Nat→List Int) (k:Nat):Prop:=
 ∀ (N:Nat) (m:Mem) (va vb:AV) (s:DS) (a:Nat),30+8*k≤N→VM m0 I M Q m va vb s→s.c.length=M.code.length→whites s.c≤k→s.c[a]?=some 0→m.n+40*whites s.c+10≤2 ^ depth→s.l.length+whites s.c≤100000→s.b.length+2*whites s.c≤300000→
  ∃ m' va' vb',run A N 113 [.int .i64 (a:Int),.ptr Q.q1 0,.ptr Q.q2 0,.ptr Q.q3 0,.ptr Q.q4 0,.ptr Q.q5 0] m=some (.tup [],m')∧VM m0 I M Q m' va' vb' (visP nx k a s)∧VStep Q va vb m va' vb' m'∧(visP nx k a s).c.length=s.c.length∧whites (visP nx k a s).c+1≤whites s.c∧(visP nx k a s).l.length+whites (visP nx k a s).c≤s.l.length+whites s.c∧(visP nx k a s).b.length+2*whites (visP nx k a s).c≤s.b.length+2*whites s.c∧m'.n+40*whites (visP nx k a s).c≤m.n+40*whites s.c
theorem zer2:zerosEv [AV.int .i64 0,.int .i64 0] 2=[.int .i64 0,.int .i64 0]:=rfl
theorem vis_step (k:Nat) (m0:Mem) (I:ImV) (M:Img) (Q:VQ) (nx:Nat→List Int) (hrec:RecV m0 I M Q nx k) (N:Nat) (hN:30+8*k≤N) (m:Mem) (va vb:AV) (s:DS) (hv:VM m0 I M Q m va vb s) (hcl:s.c.length=M.code.length) (_hcm:M.code.length≤1000000) (hw:whites s.c≤k) (a:Nat) (x:Int) (hx:0≤x∧x < (M.code.length:Int)) (hmn:m.n+40*whites s.c+20≤2 ^ depth) (hll:s.l.length+whites s.c≤100000) (hbl:s.b.length+2*whites s.c≤300000)
  (B6:Nat) (h6:m.get B6=some (.cells [.int .i64 (a:Int)] true)) (T:List (Nat×AV)) (t1:look T 1=.ptr Q.q1 0) (t3:look T 3=.ptr Q.q3 0) (t4:look T 4=.ptr Q.q4 0) (t6:look T 6=.ptr B6 0) (i:Int):
  ∃ T1 T2 m' va' vb',codeEv (run A N) noAgain b113.asg ⟨42,setT (setT T 16 (.int .i64 i)) 17 (.int .i64 x),[],m⟩=some (.norm,⟨42,T1,[],m⟩)∧codeEv (run A N) noAgain b113.bdy ⟨42,T1,[],m⟩=some (.norm,⟨42,T2,[],m'⟩)∧VM m0 I M Q m' va' vb' (visStep (visP nx k) a x s)∧VStep Q va vb m va' vb' m'∧(visStep (visP nx k) a x s).c.length=s.c.length∧whites (visStep (visP nx k) a x s).c≤whites s.c∧(visStep (visP nx k) a x s).l.length+whites (visStep (visP nx k) a x s).c≤s.l.length+whites s.c∧(visStep (visP nx k) a x s).b.length+2*whites (visStep (visP nx k) a x s).c≤s.b.length+2*whites s.c+1∧m'.n+40*whites (visStep (visP nx k) a x s).c≤m.n+40*whites s.c+2:=by
 obtain ⟨g,rfl⟩:∃ g:Nat,x=(g:Int):=⟨x.toNat,by omega⟩
 have hg:0≤(g:Int)∧(g:Int) < (s.c.length:Int):=by omega
 obtain ⟨c,hc⟩:∃ c,s.c[g]?=some c:=⟨_,List.getElem?_eq_getElem (by omega)⟩
 have hr:=u8s_at hc
 have g1:=hv.g1
 have g3:=hv.g3
 have g4:=hv.g4
 have gc:=hv.gc
 have hf:=not_full (m:=m) (by omega)
 match c,hc,hr with
 | 0,hc,hr=>
  have e:visStep (visP nx k) a (g:Int) s=visP nx k g s:=by simp only [visStep,Int.toNat_natCast,hc]
  rw [e]
  obtain ⟨m',va',vb',hrun,hv',hst,q1,q2,q3,q4,q5⟩:=hrec N m va vb s g hN hv hcl hw hc (by omega) hll hbl
  have z0:(((0:Nat):Int) == 0)=true:=rfl
  exact ⟨_,_,m',va',vb',by
   simp only [KK,b113,Nat.reduceEqDiff,Nat.reduceLT]; rfl,by
   simp only [KK,b113,opE_mkslc,Nat.reduceEqDiff,Nat.reduceAdd,Nat.reduceLeDiff,Nat.reduceLT,Nat.reducePow,Int.toNat_natCast,Nat.mul_one,u8_0,u8_1,t1,t3,t4,g1,g3,gc,hg,hr,z0,hrun]; rfl,hv',hst,q1,by omega,q3,by omega,by omega⟩
 | 1,hc,hr=>
  have e:visStep (visP nx k) a (g:Int) s=⟨s.c,s.l,s.b++[((a:Int),(g:Int))]⟩:=by simp only [visStep,Int.toNat_natCast,hc]
  rw [e]
  obtain ⟨m2,happ,h4,n2,hv',hfr⟩:=hv.addb (a:Int) (g:Int) (by omega) (by omega)
  have z0:(((1:Nat):Int) == 0)=false:=rfl
  have z1:(((1:Nat):Int) == 1)=true:=rfl
  exact ⟨_,_,_,va,_,by
   simp only [KK,b113,Nat.reduceEqDiff,Nat.reduceLT]; rfl,by
   simp only [KK,b113,opE_mkslc,Nat.reduceEqDiff,Nat.reduceAdd,Nat.reduceLeDiff,Nat.reduceLT,Nat.reducePow,Int.toNat_natCast,Nat.mul_one,u8_0,u8_1,t1,t3,t4,t6,g1,g3,g4,h6,gc,hg,hr,z0,z1,hf,zer2,happ,h4]; rfl,hv',⟨hfr,fun _ h=>.inl h,fun j hj=>.inr (by cases hj; omega)⟩,rfl,Nat.le_refl _,Nat.le_refl _,by dsimp only; rw [List.length_append,List.length_singleton]; omega,by rw [set_n]; dsimp only; omega⟩
 | c+2,hc,hr=>
  have e:visStep (visP nx k) a (g:Int) s=s:=by unfold visStep; rw [Int.toNat_natCast,hc]; rfl
  rw [e]
  have z1:(((c+2:Nat):Int) == 1)=false:=by rw [beq_eq_false_iff_ne]; omega
  have z0:(((c+2:Nat):Int) == 0)=false:=by rw [beq_eq_false_iff_ne]; omega
  exact ⟨_,_,m,va,vb,by
   simp only [KK,b113,Nat.reduceEqDiff,Nat.reduceLT]; rfl,by
   simp only [KK,b113,opE_mkslc,Nat.reduceEqDiff,Nat.reduceAdd,Nat.reduceLeDiff,Nat.reduceLT,Nat.reducePow,Int.toNat_natCast,Nat.mul_one,u8_0,u8_1,t1,t3,t4,g1,g3,gc,hg,hr,z0,z1]; rfl,hv,VStep.refl Q va vb m,rfl,Nat.le_refl _,Nat.le_refl _,by omega,by omega⟩
theorem back_run (N:Nat) (m:Mem) (v:AV) (_h1:AV.one v=true) (_h2:v.isLoc=false) (h3:v.cells?=some [v]) (h4:∀ ls,AV.locIn ls v=true) (hmn:m.n < 2 ^ depth):run A (N+1) 114 [v] m=some (.fn 129 [.ptr m.n 0],m.push (.cells [v] true)):=by
 have hf:=not_full hmn
 rw [run_114]
 unfold fnEv a114
 simp only [KK,Nat.reduceEqDiff,Nat.reduceAdd,Nat.reduceLT,h3,h4,hf]
theorem RS.row {m:Mem} {v:AV} {l:List Int} (h:RS (fun z=>[AV.int .i64 z]) 1 m v l) (sn:Nat) (t:List (Nat×AV)) (q:List (Nat×List AV)):rowAt ⟨sn,t,q,m⟩ v=some (l.map fun z=>AV.int .i64 z)∧lenH v=l.length:=by
 rcases h with ⟨rfl,rfl⟩ | ⟨b,o,cap,e,rfl,h⟩
 ·exact ⟨rfl,rfl⟩
 ·refine ⟨?_,rfl⟩
  by_cases hl:l.length=0
  ·have:l=[]:=List.length_eq_zero_iff.1 hl
   subst this
   rfl
  ·simp only [rowAt,hl,if_false,St.read]
   obtain ⟨cs,ow,g1,_⟩:=h 0 l[0] (by rw [List.getElem?_eq_getElem (by omega)])
   rw [g1]
   dsimp only
   have hat:∀ i (hi:i < l.length),cs[o+i]?=some (.int .i64 l[i]):=by
    intro i hi
    obtain ⟨cs',ow',g1',g2'⟩:=h i l[i] (by rw [List.getElem?_eq_getElem hi])
    rw [g1] at g1'
    cases g1'
    unfold cellsAt at g2'
    split at g2'
    rotate_left
    ·cases g2'
    have h3:=congrArg (fun z=>z.bind fun y=>y[0]?) g2'
    simp only [Option.bind_some,List.getElem?_cons_zero] at h3
    rw [List.getElem?_take,if_pos (by omega),List.getElem?_drop] at h3
    simpa using h3
   have hlast:=hat (l.length - 1) (by omega)
   have hlt:=(List.getElem?_eq_some_iff.1 hlast).1
   unfold cellsAt
   rw [if_pos (by omega)]
   congr 1
   apply List.ext_getElem?
   intro i
   rw [List.getElem?_map,List.getElem?_take]
   by_cases hi:i < l.length
   ·rw [if_pos hi,List.getElem?_drop,hat i hi,List.getElem?_eq_getElem hi]
    rfl
   ·rw [if_neg hi,List.getElem?_eq_none (by omega)]
    rfl
theorem RS.low {m:Mem} {v:AV} {l:List Int} (h:RS (fun z=>[AV.int .i64 z]) 1 m v l) (hl:0 < l.length):∀ b,blkOf v=some b→b < m.n:=by
 rcases h with ⟨rfl,_⟩ | ⟨b,o,cap,e,rfl,h⟩
 ·intro b hb; cases hb
 ·intro b' hb
  cases hb
  obtain ⟨cs,ow,g1,_⟩:=h 0 l[0] (by rw [List.getElem?_eq_getElem (by omega)])
  exact Mem.get_lt g1
theorem sameI_ints:∀ l:List Int,sameI (l.map fun z=>AV.int .i64 z) (l.map fun z=>AV.int .i64 z)=true
 | []=>rfl
 | z::r=>by
  rw [List.map_cons,sameI,sameI_ints r]
  simp
theorem vis_loop (k:Nat) (m0:Mem) (I:ImV) (M:Img) (Q:VQ) (nx:Nat→List Int) (hrec:RecV m0 I M Q nx k) (N:Nat) (hN:30+8*k≤N) (hcm:M.code.length≤1000000) (a:Nat) (l:List Int) (hin:∀ x∈l,0≤x∧x < (M.code.length:Int)) (u:AV) (hus:sameH u u=true)
  (B6 BO:Nat) (T:List (Nat×AV)) (t1:look T 1=.ptr Q.q1 0) (t3:look T 3=.ptr Q.q3 0) (t4:look T 4=.ptr Q.q4 0) (t6:look T 6=.ptr B6 0) (mx:Mem):
  ∀ (i:Nat),i≤l.length→∀ (m:Mem) (va vb:AV) (s:DS),VM m0 I M Q m va vb s→s.c.length=M.code.length→whites s.c≤k→m.n+40*whites s.c+2*i+20≤2 ^ depth→s.l.length+whites s.c≤100000→s.b.length+2*whites s.c+i≤300000→Safe Q va vb m B6→Safe Q va vb m BO→(∀ b,blkOf u=some b→b < m.n→Safe Q va vb m b)→
   m.get B6=some (.cells [.int .i64 (a:Int)] true)→m.get BO=some (.cells [u] true)→RS (fun z=>[AV.int .i64 z]) 1 m u l→
   ∃ m' va' vb',backLoop (run A N) b113 ⟨42,T,[],mx⟩ BO 0 u (l.map fun z=>AV.int .i64 z) i m=some m'∧VM m0 I M Q m' va' vb' ((l.take i).foldr (visStep (visP nx k) a) s)∧VStep Q va vb m va' vb' m'∧Safe Q va' vb' m' B6∧m'.get B6=some (.cells [.int .i64 (a:Int)] true)∧((l.take i).foldr (visStep (visP nx k) a) s).c.length=s.c.length∧whites ((l.take i).foldr (visStep (visP nx k) a) s).c≤whites s.c∧((l.take i).foldr (visStep (visP nx k) a) s).l.length+whites ((l.take i).foldr (visStep (visP nx k) a) s).c≤s.l.length+whites s.c∧((l.take i).foldr (visStep (visP nx k) a) s).b.length+2*whites ((l.take i).foldr (visStep (visP nx k) a) s).c≤s.b.length+2*whites s.c+i∧m'.n+40*whites ((l.take i).foldr (visStep (visP nx k) a) s).c≤m.n+40*whites s.c+2*i
 | 0,_,m,va,vb,s,hv,hcl,hw,hmn,hll,hbl,s6,sO,su,g6,gO,hr=>by
  refine ⟨m,va,vb,rfl,?_,VStep.refl _ _ _ _,s6,g6,?_⟩
  ·rw [List.take_zero]; exact hv
  ·rw [List.take_zero]
   exact ⟨rfl,Nat.le_refl _,Nat.le_refl _,Nat.le_refl _,Nat.le_refl _⟩
 | i+1,hi,m,va,vb,s,hv,hcl,hw,hmn,hll,hbl,s6,sO,su,g6,gO,hr=>by
  have hil:i < l.length:=by omega
  have hx:l[i]?=some l[i]:=List.getElem?_eq_getElem hil
  obtain ⟨T1,T2,m1,va1,vb1,c1,c2,hv1,st1,q1,q2,q3,q4,q5⟩:=vis_step k m0 I M Q nx hrec N hN m va vb s hv hcl hcm hw a l[i] (hin _ (List.getElem_mem hil)) (by omega) hll (by omega) B6 g6 T t1 t3 t4 t6 (i:Int)
  obtain ⟨e6,s6'⟩:=st1.safe hv s6
  obtain ⟨eO,sO'⟩:=st1.safe hv sO
  have hlow:=hr.low (by omega)
  have hr1:RS (fun z=>[AV.int .i64 z]) 1 m1 u l:=hr.frame fun b hb hu=>(st1.safe hv (su b hu hb)).1
  obtain ⟨r1,_⟩:=hr1.row 42 T2 []
  obtain ⟨m',va',vb',hb,hv',st',s6'',g6',p1,p2,p3,p4,p5⟩:=vis_loop k m0 I M Q nx hrec N hN hcm a l hin u hus B6 BO T t1 t3 t4 t6 mx i (by omega) m1 va1 vb1 _ hv1 (q1.trans hcl) (by omega) (by omega) (by omega) (by omega) s6' sO' (fun b hb _=>(st1.safe hv (su b hb (hlow b hb))).2) (e6.trans g6) (eO.trans gO) hr1
  have htk:l.take (i+1)=l.take i++[l[i]]:=List.take_succ_eq_append_getElem hil
  rw [htk,List.foldr_append]
  simp only [List.foldr_cons,List.foldr_nil]
  refine ⟨m',va',vb',?_,hv',st1.trans st',s6'',g6',by omega,by omega,by omega,by omega,by omega⟩
  rw [backLoop]
  have hxm:(l.map fun z=>AV.int .i64 z)[i]?=some (AV.int .i64 l[i]):=by rw [List.getElem?_map,hx]; rfl
  rw [hxm]
  dsimp only
  rw [if_pos (by decide:b113.p0 < 42∧b113.p1 < 42)]
  rw [show (setT (setT T b113.p0 (AV.int .i64 (i:Int))) b113.p1 (AV.int .i64 l[i]))=setT (setT T 16 (.int .i64 (i:Int))) 17 (.int .i64 l[i]) from rfl,c1]
  dsimp only
  rw [c2]
  dsimp only
  have hrd:(⟨42,T2,[],m1⟩:St).read (.ptr BO 0) 1=some [u]:=by
   simp only [St.read,eO.trans gO]
   rfl
  rw [hrd]
  dsimp only
  rw [r1]
  dsimp only
  rw [hus,sameI_ints]
  exact hb
theorem vis_run (m0:Mem) (I:ImV) (M:Img) (hm:IM m0 I M) (hT:Tab m0) (hco:CodesOk M) (hni:NextIn M) (hlc:M.code.length≤100000) (Q:VQ):∀ k,RecV m0 I M Q (nextAt M) k
 | 0=>fun N m va vb s a _ _ _ hw ha _ _ _=>by
  have:=whites_set s.c a 1 ha (by omega)
  omega
 | k+1=>by
  have hrec:=vis_run m0 I M hm hT hco hni hlc Q k
  intro N m va vb s a hN hv hcl hw ha hmn hll hbl
  obtain ⟨n,rfl⟩:∃ n,N=n+1:=⟨N - 1,by omega⟩
  have hP:=hm.pls
  have hal:a < s.c.length:=(List.getElem?_eq_some_iff.1 ha).1
  obtain ⟨x,hx⟩:∃ x,M.code[a]?=some x:=⟨_,List.getElem?_eq_getElem (by omega)⟩
  have hw1:=whites_set s.c a 1 ha (by omega)
  have hf:=not_full (m:=m) (by omega)
  have hnn:=hv.nn
  have hhi:=hv.hi
  have hol:=hv.ol.blk
  have hob:=hv.ob.blk
  have x1:Ext m (m.push (.cells [.int .i64 (a:Int)] true)):=(Ext.refl m).push _ (by omega)
  have hv1:=hv.up x1
  have g6:=Mem.get_push_new (m:=m) (.cells [.int .i64 (a:Int)] true)
  obtain ⟨hv2,f2⟩:=hv1.col (s.c.set a 1) (by simp) (by rw [push_n]; omega)
  have g61:=(f2.2 m.n (by rw [push_n]; omega) (by omega) (by omega) (by omega) (fun e=>by have:=(hol _ e).2; omega) (fun e=>by have:=(hob _ e).2; omega)).trans g6
  have n2:((m.push (.cells [.int .i64 (a:Int)] true)).set Q.cb (.cells (u8s (s.c.set a 1)) true)).n=m.n+1:=by rw [set_n,push_n]
  generalize hm2:(m.push (.cells [.int .i64 (a:Int)] true)).set Q.cb (.cells (u8s (s.c.set a 1)) true)=m2 at hv2 f2 g61 n2
  obtain ⟨v,m3,hnx,hrs,hgr,hfar,hsame⟩:=next_run2 n (by omega) m2 I M (hm.ext hv2.ext) (hT.ext hv2.ext) a x hx (hco a x hx) (by omega) (by omega)
  have hgn:=hgr.2
  have hg1:=hgr.1.1
  obtain ⟨v1,v2,v3,v4⟩:=hrs.plain
  have hv3:=hv2.up hgr.1
  have hbk:=back_run (n - 1) m3 v v3 v2 v4 v1 (by omega)
  rw [show n - 1+1=n by omega] at hbk
  have x4:Ext m3 (m3.push (.cells [v] true)):=(Ext.refl m3).push _ (by omega)
  have hv4:=hv3.up x4
  have gO:=Mem.get_push_new (m:=m3) (.cells [v] true)
  have n4:(m3.push (.cells [v] true)).n=m3.n+1:=push_n _ _
  have hg0:0≤(a:Int)∧(a:Int) < (s.c.length:Int):=by omega
  have hst:List.take (0+a) (u8s s.c)++[AV.int .u8 1]++List.drop (0+a+1) (u8s s.c)=u8s (s.c.set a 1):=u8s_set s.c a 1 hal
  have hsl:0+a+1≤(u8s s.c).length:=by unfold u8s; rw [List.length_map]; omega
  obtain ⟨T0,cA,p1,p2,p3,p4,p5,p6⟩:∃ T0,codeEv (run A n) noAgain b113.A ⟨42,argsT 0 [.int .i64 (a:Int),.ptr Q.q1 0,.ptr Q.q2 0,.ptr Q.q3 0,.ptr Q.q4 0,.ptr Q.q5 0],[],m⟩=some (.norm,⟨42,T0,[],m.push (.cells [.int .i64 (a:Int)] true)⟩)∧look T0 1=.ptr Q.q1 0∧look T0 2=.ptr Q.q2 0∧look T0 3=.ptr Q.q3 0∧look T0 4=.ptr Q.q4 0∧look T0 5=.ptr Q.q5 0∧look T0 6=.ptr m.n 0:=
   ⟨_,by simp only [KK,b113,Nat.reduceEqDiff,Nat.reduceAdd,Nat.reduceLT,hf]; rfl,by simp only [look_set,look_cons,Nat.reduceEqDiff,if_true,if_false],by simp only [look_set,look_cons,Nat.reduceEqDiff,if_true,if_false],by simp only [look_set,look_cons,Nat.reduceEqDiff,if_true,if_false],by simp only [look_set,look_cons,Nat.reduceEqDiff,if_true,if_false],by simp only [look_set,look_cons,Nat.reduceEqDiff,if_true,if_false],by simp only [look_set,look_cons,Nat.reduceEqDiff,if_true,if_false]⟩
  have k1:=hv1.g1
  have kc:=hv1.gc
  obtain ⟨T1,cA1,q1,q2,q3,q4,q5,q6⟩:∃ T1,codeEv (run A n) noAgain b113.A1 ⟨42,T0,[],m.push (.cells [.int .i64 (a:Int)] true)⟩=some (.norm,⟨42,T1,[],m2⟩)∧look T1 1=.ptr Q.q1 0∧look T1 2=.ptr Q.q2 0∧look T1 3=.ptr Q.q3 0∧look T1 4=.ptr Q.q4 0∧look T1 5=.ptr Q.q5 0∧look T1 6=.ptr m.n 0:=
   ⟨_,by simp only [KK,b113,Nat.reduceEqDiff,Nat.reduceAdd,Nat.reduceLeDiff,Nat.reduceLT,Int.toNat_natCast,Nat.mul_one,p1,p6,k1,kc,g6,hg0,hsl,hst,hm2]; rfl,by simp only [look_set,Nat.reduceEqDiff,if_false,p1],by simp only [look_set,Nat.reduceEqDiff,if_false,p2],by simp only [look_set,Nat.reduceEqDiff,if_false,p3],by simp only [look_set,Nat.reduceEqDiff,if_false,p4],by simp only [look_set,Nat.reduceEqDiff,if_false,p5],by simp only [look_set,Nat.reduceEqDiff,if_false,p6]⟩
  have k2:=hv2.g2
  obtain ⟨T2,cB,r0,r1,r2,r3,r4,r5,r6⟩:∃ T2,codeEv (run A n) noAgain b113.B ⟨42,T1,[],m2⟩=some (.norm,⟨42,T2,[],m3.push (.cells [v] true)⟩)∧look T2 15=.fn 129 [.ptr m3.n 0]∧look T2 1=.ptr Q.q1 0∧look T2 2=.ptr Q.q2 0∧look T2 3=.ptr Q.q3 0∧look T2 4=.ptr Q.q4 0∧look T2 5=.ptr Q.q5 0∧look T2 6=.ptr m.n 0:=
   ⟨_,by simp only [KK,b113,Nat.reduceEqDiff,Nat.reduceAdd,Nat.reduceLeDiff,Nat.reduceLT,q2,q6,k2,g61,hnx,hbk,v2]; rfl,by simp only [look_set,Nat.reduceEqDiff,if_true,if_false],by simp only [look_set,Nat.reduceEqDiff,if_false,q1],by simp only [look_set,Nat.reduceEqDiff,if_false,q2],by simp only [look_set,Nat.reduceEqDiff,if_false,q3],by simp only [look_set,Nat.reduceEqDiff,if_false,q4],by simp only [look_set,Nat.reduceEqDiff,if_false,q5],by simp only [look_set,Nat.reduceEqDiff,if_false,q6]⟩
  have e5:visP (nextAt M) (k+1) a s=endS a ((nextI x a).foldr (visStep (visP (nextAt M) k) a) (greyS a s)):=by
   rw [visP]
   unfold nextAt
   rw [hx]
  rw [e5]
  have hle2:=nextI_len x a
  have hsf:∀ j,m.n≤j→j < m3.n+1→Safe Q va vb (m3.push (.cells [v] true)) j:=fun j h1 h2=>⟨by omega,by omega,fun e=>by have:=(hol _ e).2; omega,fun e=>by have:=(hob _ e).2; omega⟩
  have g63:m3.get m.n=some (.cells [.int .i64 (a:Int)] true):=(hgr.1.2 _ (by omega)).trans g61
  obtain ⟨m5,va5,vb5,hlp,hv5,st5,s65,g65,w1,w2,w3,w4,w5⟩:=vis_loop k m0 I M Q (nextAt M) hrec n (by omega) (by omega) a (nextI x a) (hni a x hx) v hsame m.n m3.n T2 r1 r3 r4 r6 (m3.push (.cells [v] true)) (nextI x a).length (Nat.le_refl _) (m3.push (.cells [v] true)) va vb (greyS a s) hv4
   (by rw [greyS]; dsimp only; rw [List.length_set]; exact hcl) (by rw [greyS]; dsimp only; omega) (by rw [greyS]; dsimp only; omega) (by rw [greyS]; dsimp only; omega) (by rw [greyS]; dsimp only; omega) (hsf _ (by omega) (by omega)) (hsf _ (by omega) (by omega)) (fun b hb hlt=>hsf b (by have:=hfar b hb; omega) (by omega)) ((x4.2 _ (by omega)).trans g63) gO (hrs.ext x4)
  rw [List.take_length] at hv5 w1 w2 w3 w4 w5
  have w1':((nextI x a).foldr (visStep (visP (nextAt M) k) a) (greyS a s)).c.length=s.c.length:=w1.trans (by rw [greyS]; dsimp only; rw [List.length_set])
  rw [greyS] at w2 w3 w4 w5
  dsimp only at w2 w3 w4 w5
  rw [←greyS] at w2 w3 w4 w5
  generalize (nextI x a).foldr (visStep (visP (nextAt M) k) a) (greyS a s)=s5 at*
  have y5:=whites_set2 s5.c a 2 (by omega)
  have hhi5:=hv5.hi
  obtain ⟨hv6,f6⟩:=hv5.col (s5.c.set a 2) (by simp) (by omega)
  have st6:VStep Q va5 vb5 m5 va5 vb5 (m5.set Q.cb (.cells (u8s (s5.c.set a 2)) true)):=⟨f6,fun _ h=>.inl h,fun _ h=>.inl h⟩
  obtain ⟨g66,s66⟩:=st6.safe hv5 s65
  have n6:(m5.set Q.cb (.cells (u8s (s5.c.set a 2)) true)).n=m5.n:=set_n _ _ _
  have k5:=hv5.g1
  have kc5:=hv5.gc
  have hg5:0≤(a:Int)∧(a:Int) < (s5.c.length:Int):=by omega
  have hst5:List.take (0+a) (u8s s5.c)++[AV.int .u8 2]++List.drop (0+a+1) (u8s s5.c)=u8s (s5.c.set a 2):=u8s_set s5.c a 2 (by omega)
  have hsl5:0+a+1≤(u8s s5.c).length:=by unfold u8s; rw [List.length_map]; omega
  generalize hm6:m5.set Q.cb (.cells (u8s (s5.c.set a 2)) true)=m6 at hv6 f6 st6 g66 s66 n6
  obtain ⟨m7,happ,h75,n7,hv7,f7⟩:=hv6.addl (a:Int) (by omega) (by dsimp only; omega)
  dsimp only at happ h75 n7 hv7 f7
  have hf6:=not_full (m:=m6) (by omega)
  have k6:=hv6.g5
  have g66':=g66.trans g65
  have st7:VStep Q va5 vb5 m6 (.slice (m6.n+1) 0 (s5.l.length+1) none 1) vb5 (m7.set Q.q5 (.cells [.slice (m6.n+1) 0 (s5.l.length+1) none 1] true)):=⟨f7,fun j hj=>.inr (by cases hj; omega),fun _ h=>.inl h⟩
  obtain ⟨T3,cC⟩:∃ T3,codeEv (run A n) noAgain b113.C ⟨42,T2,[],m5⟩=some (.norm,⟨42,T3,[],m7.set Q.q5 (.cells [.slice (m6.n+1) 0 (s5.l.length+1) none 1] true)⟩):=
   ⟨_,by simp only [KK,b113,opE_mkslc,Nat.reduceEqDiff,Nat.reduceAdd,Nat.reduceLeDiff,Nat.reduceLT,Nat.reducePow,Int.toNat_natCast,Nat.mul_one,r1,r5,r6,k5,kc5,g65,hg5,hsl5,hst5,hm6,k6,g66',hf6,zer1,happ,h75]; rfl⟩
  have st3:VStep Q va vb m va vb (m3.push (.cells [v] true)):=⟨⟨by omega,fun j hj h1 h2 h3 h4 h5=>(x4.2 j (by omega)).trans ((hgr.1.2 j (by omega)).trans ((f2.2 j (by rw [push_n]; omega) h1 h2 h3 h4 h5).trans (x1.2 j hj)))⟩,fun _ h=>.inl h,fun _ h=>.inl h⟩
  refine ⟨_,_,vb5,?_,hv7,st3.trans (st5.trans (st6.trans st7)),?_,?_,?_,?_,?_⟩
  ·rw [run_113]
   unfold fnEv a113 primFn
   dsimp only
   unfold backEv
   rw [if_pos (show [AV.int .i64 (a:Int),.ptr Q.q1 0,.ptr Q.q2 0,.ptr Q.q3 0,.ptr Q.q4 0,.ptr Q.q5 0].length=b113.np from rfl)]
   rw [show b113.n=42 from rfl,cA]
   dsimp only
   rw [cA1]
   dsimp only
   rw [cB]
   dsimp only
   rw [show b113.g=15 from rfl,r0]
   dsimp only
   have hrd:(⟨42,T2,[],m3.push (.cells [v] true)⟩:St).read (.ptr m3.n 0) 1=some [v]:=by
    simp only [St.read,gO]
    rfl
   obtain ⟨rr,rl⟩:=(hrs.ext x4).row 42 T2 []
   rw [hrd]
   dsimp only
   rw [rr]
   dsimp only
   rw [if_pos ⟨rfl,rfl,by rw [rl,List.length_map],by rw [rl]; omega,sameI_ints _,hsame⟩,List.length_map,hlp]
   dsimp only
   rw [cC]
   rfl
  ·rw [endS]; dsimp only; rw [List.length_set]; exact w1'
  ·rw [endS]; dsimp only; omega
  ·rw [endS]; dsimp only; rw [List.length_append,List.length_singleton]; omega
  ·rw [endS]; dsimp only; omega
  ·rw [endS,set_n]; dsimp only; omega
end AG
