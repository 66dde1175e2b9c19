/- The abstract machine, part 10: make, append, max, min, calls. -/
import Derived.Test.YtkmbepgofajfkaaDoorAgOps5
namespace AG
noncomputable section
open Go Go.RowKit
section
variable {P:Program} {o:Oper} {a:Act} {w w':World} {next:Act→World→Prop} {Q:Exit→Act→World→Prop}
variable {ρ ρ':Rho} {lam:Nat→Nat} {s s':St} {v:AV} {r:Value} {call:Caller}
theorem wrap64_id {n:Int} (h0:-9223372036854775808≤n) (h1:n≤9223372036854775807):IntKind.i64.wrap n=n:=by
 unfold IntKind.wrap IntKind.bits IntKind.signed
 simp only [Bool.true_and]
 split <;> simp_all <;> omega
theorem op_make {t e:TypeId} {i:TypeInfo} {z:List AV} {l c:Operand} {l' c':Opd} (ho:o.op=.makeSlice t l c) (ht:P.underlying t=some (.slice e)) (hi:P.info? e=some i) (hz:zeroOf P e=some z) (hzl:z.length=i.size) (hpos:0 < i.size)
  (hl:opd P l=some l') (hc:opd P c=some c') (hs:SR P ρ lam s a w)
  (he:opEv call (.make i.size i.bytes z l' c') s=some (v,s')) (hk:After P ρ lam s a w v s' o.dst next):o.wp P a w next Q:=by
 obtain ⟨i',zv,hi',hzv,rfl⟩:=zeroOf_ok hz
 rw [hi] at hi'; cases hi'
 simp only [opEv] at he
 split at he
 ·rename_i k1 n1 k2 n2 e1 e2
  split at he
  ·rename_i hb
   obtain ⟨b1,b2,b3,b4⟩:=hb
   split at he
   ·cases he
   ·rename_i hf
    simp only [Option.some.injEq,Prod.mk.injEq] at he
    obtain ⟨rfl,rfl⟩:=he
    have h1:=hs.opd hl
    have h2:=hs.opd hc
    rw [e1] at h1; rw [e2] at h2
    simp only [VT,VR] at h1 h2
    have w1:IntKind.i64.wrap n1=n1:=wrap64_id (by omega) (by omega)
    have w2:IntKind.i64.wrap n2=n2:=wrap64_id (by omega) (by omega)
    have t1:¬(n2 < 0):=by omega
    have t2:¬(281474976710656 < (i.bytes:Int)*n2):=by omega
    have t3:¬(n1 < 0):=by omega
    have t4:¬(n2 < n1):=by omega
    have hzs:=zeros_ok (ρ:=ρ) (n2.toNat*i.size) (cAVs_ok ρ zv.cells.toList) (by omega)
    have hlen':=hzs.length
    refine ok_step hs hk (w':=w.alloc (.cells ((Array.range (n2.toNat*i.size)).map (zv.cells[· % zv.cells.size]!)) e)) (r:=.slice (some ⟨w.heap.size,0,none⟩) n1.toNat n2.toNat) ?_
     (MStep.new (n:=n2.toNat*i.size) (t:=e) hs.mem (by simpa using hf) ⟨_,e,(0,0),heap_alloc_new w _,?_,fun _=>⟨rfl,by simp,rfl⟩,?_⟩) ?_
    ·by_cases h0:n2.toNat*i.size=0
     ·simp [execOp,ho,h1,h2,Instr.makeSlice,run_underlying ht,asInt,asIntOf,typeInfo,hi,w1,w2,t1,t2,t3,t4,run_sizeOf hi,h0,run_newRow,show Array.range 0=#[] from rfl]
     ·have h0':¬(n2.toNat=0∨i.size=0):=by
       intro h; apply h0; rcases h with h | h <;> simp [h]
      simp [execOp,ho,h1,h2,Instr.makeSlice,run_underlying ht,asInt,asIntOf,typeInfo,hi,w1,w2,t1,t2,t3,t4,run_sizeOf hi,run_newRow,run_zero hi hzv]
      intro hh; exact absurd hh h0
    ·rw [List.drop_zero,List.take_of_length_le (by omega)]; exact hzs
    ·simp only [Nat.zero_add]; simp at hlen' ⊢; omega
    ·simp only [VR]
     exact ⟨⟨w.heap.size,0,n2.toNat*i.size,e⟩,n2.toNat,by rw [←hs.mem.len]; simp,rfl,by omega,by unfold maxLen; omega,rfl⟩
  ·cases he
 ·cases he
theorem maxs_ok:∀ {l:List AV} {x v:AV} {rx:Value} {rs:List Value},VR ρ x rx→VRs ρ l rs→maxEv x l=some v→∀ w:World,∃ r,(rs.foldlM Builtin.max2 rx).run P w=.ok r w∧VR ρ v r
 | [],x,v,rx,rs,hx,hl,he,w=>by
  simp only [VRs] at hl; subst hl
  simp only [maxEv,Option.some.injEq] at he; subst he
  exact ⟨rx,rfl,hx⟩
 | y::l,x,v,rx,rs,hx,hl,he,w=>by
  simp only [VRs] at hl
  obtain ⟨ry,rest,rfl,hy,hr⟩:=hl
  unfold maxEv at he
  split at he
  ·rename_i heq; cases heq
  ·rename_i k1 m k2 n l2 heq
   cases heq
   simp only [VR] at hx hy; subst hx; subst hy
   obtain ⟨r,h1,h2⟩:=maxs_ok (x:=.int k1 (if n > m then n else m)) (rx:=.int k1 (if n > m then n else m)) (by simp [VR]) hr he w
   exact ⟨r,by simp only [List.foldlM_cons,Builtin.max2,Sem.run_bind,Sem.run_pure,Result.andThen_ok]; exact h1,h2⟩
  ·cases he
theorem mins_ok:∀ {l:List AV} {x v:AV} {rx:Value} {rs:List Value},VR ρ x rx→VRs ρ l rs→minEv x l=some v→∀ w:World,∃ r,(rs.foldlM Builtin.min2 rx).run P w=.ok r w∧VR ρ v r
 | [],x,v,rx,rs,hx,hl,he,w=>by
  simp only [VRs] at hl; subst hl
  simp only [minEv,Option.some.injEq] at he; subst he
  exact ⟨rx,rfl,hx⟩
 | y::l,x,v,rx,rs,hx,hl,he,w=>by
  simp only [VRs] at hl
  obtain ⟨ry,rest,rfl,hy,hr⟩:=hl
  unfold minEv at he
  split at he
  ·rename_i heq; cases heq
  ·rename_i k1 m k2 n l2 heq
   cases heq
   simp only [VR] at hx hy; subst hx; subst hy
   obtain ⟨r,h1,h2⟩:=mins_ok (x:=.int k1 (if n < m then n else m)) (rx:=.int k1 (if n < m then n else m)) (by simp [VR]) hr he w
   exact ⟨r,by simp only [List.foldlM_cons,Builtin.min2,Sem.run_bind,Sem.run_pure,Result.andThen_ok]; exact h1,h2⟩
  ·cases he
theorem op_max {args:Array Operand} {ts:Array TypeId} {l:List Opd} (ho:o.op=.call { callee:=.builtin .max,args,argTypes:=ts }) (hl:opds P args.toList=some l) (hs:SR P ρ lam s a w)
  (he:opEv call (.max l) s=some (v,s')) (hk:After P ρ lam s a w v s' o.dst next):o.wp P a w next Q:=by
 simp only [opEv] at he
 split at he
 ·cases he
 rename_i hn
 have h:=opds_ok hs hl (by simpa using hn)
 split at he
 ·cases he
 ·rename_i x r hx
  simp only [Option.map_eq_some_iff,Prod.mk.injEq] at he
  obtain ⟨u,hu,rfl,rfl⟩:=he
  rw [hx] at h
  simp only [VRs] at h
  obtain ⟨rx,rest,hr,h1,h2⟩:=h
  obtain ⟨r,q1,q2⟩:=maxs_ok (P:=P) h1 h2 hu w
  refine ok_plain hs hk (r:=r) ?_ q2
  simp only [execOp,ho,resolve,invoke,builtin,Sem.run_bind,Sem.run_pure,Result.andThen_ok,Builtin.max_,Array.toList_map,hr,q1]
theorem op_min {args:Array Operand} {ts:Array TypeId} {l:List Opd} (ho:o.op=.call { callee:=.builtin .min,args,argTypes:=ts }) (hl:opds P args.toList=some l) (hs:SR P ρ lam s a w)
  (he:opEv call (.min l) s=some (v,s')) (hk:After P ρ lam s a w v s' o.dst next):o.wp P a w next Q:=by
 simp only [opEv] at he
 split at he
 ·cases he
 rename_i hn
 have h:=opds_ok hs hl (by simpa using hn)
 split at he
 ·cases he
 ·rename_i x r hx
  simp only [Option.map_eq_some_iff,Prod.mk.injEq] at he
  obtain ⟨u,hu,rfl,rfl⟩:=he
  rw [hx] at h
  simp only [VRs] at h
  obtain ⟨rx,rest,hr,h1,h2⟩:=h
  obtain ⟨r,q1,q2⟩:=mins_ok (P:=P) h1 h2 hu w
  refine ok_plain hs hk (r:=r) ?_ q2
  simp only [execOp,ho,resolve,invoke,builtin,Sem.run_bind,Sem.run_pure,Result.andThen_ok,Builtin.min_,Array.toList_map,hr,q1]
structure Src (P:Program) (w:World) (size m:Nat) (x:Value) (news:List Value):Prop where
 len:∀ w':World,(Builtin.lenOf x).run P w'=.ok m w'
 cells:∀ w':World,(∀ p,w'.cell? p=w.cell? p)→(Builtin.firstCells size m x).run P w'=.ok news.toArray w'
 count:news.length=m*size
theorem vrs_map {ρ:Rho} {α:Type} (f:α→AV) (g:α→Value) (h:∀ a,VR ρ (f a) (g a)):∀ l:List α,VRs ρ (l.map f) (l.map g)
 | []=>by simp [VRs]
 | a::l=>by simp only [List.map_cons,VRs]; exact ⟨_,_,rfl,h a,vrs_map f g h l⟩
theorem bytesAV_ok {ρ:Rho} (a:ByteArray):VRs ρ (bytesAV a) (a.data.toList.map fun b=>.int .u8 b.toNat):=vrs_map _ _ (fun b=>by simp [VR]) _
theorem noInt_or {d:TypeDesc} (h:noInt d=true):(∃ e,d=.slice e)∨d=.string:=by
 unfold noInt at h
 split at h
 ·exact .inl ⟨_,rfl⟩
 ·exact .inr rfl
 ·cases h
theorem elems_ok {x:AV} {rx:Value} {sz n:Nat} {l:List AV} (hs:SR P ρ lam s a w) (hx:VT lam ρ x rx) (he:x.elems s sz=some (n,l)):∃ news,Src P w sz n rx news∧VRs ρ l news:=by
 unfold AV.elems at he
 split at he
 ·simp only [Option.some.injEq,Prod.mk.injEq] at he
  obtain ⟨rfl,rfl⟩:=he
  simp only [VT,VR] at hx; subst hx
  exact ⟨[],⟨fun w'=>rfl,fun w' _=>by simp [Builtin.firstCells],by simp⟩,by simp [VRs]⟩
 ·simp only [Option.some.injEq,Prod.mk.injEq] at he
  obtain ⟨rfl,rfl⟩:=he
  simp only [VT,VR] at hx
  obtain ⟨a,rfl⟩:=hx
  exact ⟨[],⟨fun w'=>rfl,fun w' _=>run_firstCells_some (P:=P) w' sz 0 _ 0 0 [] (by simp) (fun j u hj=>by simp at hj),by simp⟩,by simp [VRs]⟩
 ·rename_i b off n' c e
  by_cases hz:n'=0
  ·subst hz
   simp only [if_true,Option.some.injEq,Prod.mk.injEq] at he
   obtain ⟨rfl,rfl⟩:=he
   simp only [VT,VR] at hx
   obtain ⟨y,C,hy,rfl,_⟩:=hx
   exact ⟨[],⟨fun w'=>rfl,fun w' _=>run_firstCells_some (P:=P) w' sz 0 _ 0 C [] (by simp) (fun j u hj=>by simp at hj),by simp⟩,by simp [VRs]⟩
  rw [if_neg hz] at he
  split at he
  ·rename_i cs own hb
   split at he
   ·rename_i l' hl
    simp only [Option.some.injEq,Prod.mk.injEq] at he
    obtain ⟨rfl,rfl⟩:=he
    simp only [VT,VR] at hx
    obtain ⟨y,C,hy,rfl,_⟩:=hx
    have hread:s.read (.ptr b off) (n'*sz)=some l':=by simp [St.read,hb,hl]
    obtain ⟨b',off',vs,hr,h1,h2,h3⟩:=read_ok (r:=.pointer (some ⟨y.blk,y.off+off,none⟩)) hs (by simp only [VT,VR]; exact ⟨y,hy,rfl⟩) hread
    cases hr
    refine ⟨vs,⟨fun w'=>rfl,fun w' hw=>?_,h2⟩,h1⟩
    exact run_firstCells_some (P:=P) w' sz n' _ n' C vs h2 (fun j u hj=>by rw [Addr.add_lit,hw]; exact h3 j u hj)
   ·cases he
  ·cases he
 ·rename_i a
  split at he
  ·rename_i hz
   simp only [Option.some.injEq,Prod.mk.injEq] at he
   obtain ⟨rfl,rfl⟩:=he
   subst hz
   simp only [VT,VR] at hx; subst hx
   refine ⟨a.data.toList.map fun b=>.int .u8 b.toNat,⟨fun w'=>rfl,fun w' _=>?_,?_⟩,bytesAV_ok a⟩
   ·have e1:a.extract 0 a.size=a:=by
     apply ByteArray.ext
     simp
    simp only [Builtin.firstCells,e1,Sem.run_pure]
    congr 1
    apply Array.ext'
    simp
   ·simp only [List.length_map,Array.length_toList,Nat.mul_one]; rfl
  ·cases he
 ·cases he
theorem run_app_grow (t t' ty e:TypeId) (d:TypeDesc) (hd:noInt d=true) (i:TypeInfo) (z:Value) (ht:P.underlying t=some (.slice e)) (ht':P.underlying t'=some d) (hi:P.info? e=some i) (hz:i.zero=some z)
  (base:Option Addr) (sLen sCap m:Nat) (x:Value) (olds news:List Value) (ho:∀ w':World,(∀ p,w'.cell? p=w.cell? p)→(Builtin.firstCells i.size sLen (.slice base sLen sCap)).run P w'=.ok olds.toArray w')
  (hx:Src P w i.size m x news) (hg:sCap < sLen+m) (h63:sLen+m≤maxLen) (hfit:Builtin.nextslicecap (sLen+m) sCap*i.bytes≤281474976710656):
  (Builtin.append_ #[t,t'] ty #[.slice base sLen sCap,x]).run P w=
   .ok (.slice (some ⟨w.heap.size,0,none⟩) (sLen+m) (grownCap w (sLen+m) sCap e))
    (w.drew.alloc (.cells (olds.toArray++news.toArray++Builtin.zeroCells z.cells (grownCap w (sLen+m) sCap e - (sLen+m))) e)):=by
 have hn:¬(sLen+m≤sCap):=by omega
 unfold maxLen at h63
 have h63':¬(9223372036854775807 < ((sLen:Int)+(m:Int))):=by omega
 have h48':¬(281474976710656 < Builtin.nextslicecap (sLen+m) sCap*i.bytes):=by omega
 have h1:=ho w.drew (fun _=>rfl)
 have h2:=hx.cells w.drew (fun _=>rfl)
 rcases noInt_or hd with ⟨e',rfl⟩ | rfl
 all_goals
  simp [Builtin.append_,run_underlying ht,run_underlying ht',Go.sizeOf,typeInfo,zeroValue,hi,hz,hx.len,hn,h63',h48',Question.forced,h1,h2,newRow,grownCap]
  congr 2
  apply Array.ext'
  simp [List.append_assoc]
theorem run_app_room (t t' ty e:TypeId) (d:TypeDesc) (hd:noInt d=true) (i:TypeInfo) (ht:P.underlying t=some (.slice e)) (ht':P.underlying t'=some d) (hi:P.info? e=some i)
  (g off sLen sCap m:Nat) (x:Value) (news:List Value) (hx:Src P w i.size m x news) (h1:∀ u∈news,u.oneCell'=true) (cur:Array Value) (te:TypeId) (hg:w.heap[g]?=some (.cells cur te (0,0)))
  (hroom:sLen+m≤sCap) (hfit:off+sLen*i.size+news.length≤cur.size):
  (Builtin.append_ #[t,t'] ty #[.slice (some ⟨g,off,none⟩) sLen sCap,x]).run P w=
   .ok (.slice (some ⟨g,off,none⟩) (sLen+m) sCap) (w.setRow g (cur.toList.take (off+sLen*i.size)++news++cur.toList.drop (off+sLen*i.size+news.length)).toArray):=by
 have hst:=run_storeCells_at P g (off+sLen*i.size) te news 0 cur w hg (by omega) h1
 simp only [Nat.add_zero] at hst
 have h2:=hx.cells w (fun _=>rfl)
 rcases noInt_or hd with ⟨e',rfl⟩ | rfl <;> simp [Builtin.append_,run_underlying ht,run_underlying ht',Go.sizeOf,typeInfo,hi,hx.len,hroom,h2,Addr.add_lit,hst]
theorem run_app_nil0 (t t' ty e:TypeId) (d:TypeDesc) (hd:noInt d=true) (i:TypeInfo) (ht:P.underlying t=some (.slice e)) (ht':P.underlying t'=some d) (hi:P.info? e=some i)
  (x:Value) (news:List Value) (hx:Src P w i.size 0 x news):(Builtin.append_ #[t,t'] ty #[.slice none 0 0,x]).run P w=.ok (.slice none 0 0) w:=by
 have h2:=hx.cells w (fun _=>rfl)
 rcases noInt_or hd with ⟨e',rfl⟩ | rfl <;> simp [Builtin.append_,run_underlying ht,run_underlying ht',Go.sizeOf,typeInfo,hi,hx.len,h2]
theorem grown_ok {i:TypeInfo} {z:Value} {e:TypeId} {olds news:List Value} {n m sCap:Nat} {l:List AV} {bm:Mem} {W:World} (hm:MR P ρ bm W) (hf:bm.full=false)
  (hl:VRs ρ l (olds++news)) (h1:olds.length=n*i.size) (h2:news.length=m*i.size) (hz:z.cells.size=i.size) (hle:n+m≤maxLen):
  ∃ N,MStep P ρ bm W (ρ++[⟨W.heap.size,0,N,e⟩]) (bm.push (.cells l true)) (W.drew.alloc (.cells (olds.toArray++news.toArray++Builtin.zeroCells z.cells (grownCap W (n+m) sCap e - (n+m))) e))∧
   VR (ρ++[⟨W.heap.size,0,N,e⟩]) (.slice bm.n 0 (n+m) none i.size) (.slice (some ⟨W.heap.size,0,none⟩) (n+m) (grownCap W (n+m) sCap e)):=by
 have hge:=grownCap_ge W (n+m) sCap e
 have hcm:=grownCap_le_maxLen W (n+m) sCap e hle
 have hsz:(olds.toArray++news.toArray++Builtin.zeroCells z.cells (grownCap W (n+m) sCap e - (n+m))).size=grownCap W (n+m) sCap e*i.size:=by
  simp only [Array.size_append,List.size_toArray,size_zeroCells,hz,h1,h2,←Nat.add_mul]
  congr 1; omega
 have hll:=hl.length
 simp only [List.length_append,h1,h2] at hll
 have hge':(n+m)*i.size≤grownCap W (n+m) sCap e*i.size:=Nat.mul_le_mul_right _ hge
 rw [Nat.add_mul] at hge'
 refine ⟨grownCap W (n+m) sCap e*i.size,(MStep.drew hm).trans (MStep.new (MStep.drew hm).mr hf ⟨_,e,(0,0),heap_alloc_new W.drew _,?_,fun _=>⟨rfl,hsz.symm,rfl⟩,?_⟩),?_⟩
 ·have:(olds.toArray++news.toArray++Builtin.zeroCells z.cells (grownCap W (n+m) sCap e - (n+m))).toList=(olds++news)++(Builtin.zeroCells z.cells (grownCap W (n+m) sCap e - (n+m))).toList:=by simp
  rw [this,List.drop_zero,List.take_left' (by simp [h1,h2]; omega)]
  exact hl
 ·rw [hsz]; dsimp only; omega
 ·simp only [VR]
  exact ⟨⟨W.heap.size,0,_,e⟩,grownCap W (n+m) sCap e,by rw [←hm.len]; simp; rfl,rfl,hge,hcm,.inl (by simp)⟩
theorem op_app {t t' e:TypeId} {ty:Option Nat} {d:TypeDesc} (hd:noInt d=true) (hty:∀ u,ty=some u→u=e) {i:TypeInfo} {z:List AV} {x y:Operand} {x' y':Opd} (ho:o.op=.call { callee:=.builtin .append,args:=#[x,y],argTypes:=#[t,t'] }) (ht:P.underlying t=some (.slice e)) (ht':P.underlying t'=some d)
  (hi:P.info? e=some i) (hz:zeroOf P e=some z) (hzl:z.length=i.size) (hpos:0 < i.size)
  (hx:opd P x=some x') (hy:opd P y=some y') (hs:SR P ρ lam s a w)
  (he:opEv call (.app ty i.size i.bytes x' y') s=some (v,s')) (hk:After P ρ lam s a w v s' o.dst next):o.wp P a w next Q:=by
 obtain ⟨i',zv,hi',hzv,rfl⟩:=zeroOf_ok hz
 rw [hi] at hi'; cases hi'
 have hzc:zv.cells.size=i.size:=by
  have:=(cAVs_ok ρ zv.cells.toList).length
  simp at this; omega
 simp only [opEv,appEv] at he
 have h1:=hs.opd hx
 split at he
 ·cases he
 ·rename_i m l hel
  obtain ⟨news,hsrc,hnews⟩:=elems_ok hs (hs.opd hy) hel
  split at he
  case isFalse=>cases he
  rename_i hone
  have hn1:=ones_ok hnews hone
  split at he
  ·cases he
  rename_i hf
  have hf':s.m.full=false:=by simpa using hf
  have run:∀ V r w',a.eval x=V→(Builtin.append_ #[t,t'] o.type #[V,a.eval y]).run P w=.ok r w'→(execOp a.eval o).run P w=.ok (.value r) w':=by
   intro V r w' e1 e2
   simp [execOp,ho,resolve,invoke,builtin,e1,e2]
  have hcount:=hsrc.count
  split at he
  ·-- a nil slice
   rename_i hx'
   rw [hx'] at h1; simp only [VT,VR] at h1
   split at he
   ·rename_i hm
    subst hm
    simp only [Option.some.injEq,Prod.mk.injEq] at he
    obtain ⟨rfl,rfl⟩:=he
    exact ok_plain hs hk (run _ _ _ h1 (run_app_nil0 t t' o.type e d hd i ht ht' hi _ _ hsrc)) (by simp [VR])
   ·rename_i hm
    split at he
    ·rename_i hb
     simp only [Option.some.injEq,Prod.mk.injEq] at he
     obtain ⟨rfl,rfl⟩:=he
     have hr:=run_app_grow (P:=P) t t' o.type e d hd i zv ht ht' hi hzv none 0 0 m (a.eval y) [] news (fun w' _=>by simp [Builtin.firstCells]) hsrc (by omega) (by omega)
      (Nat.le_trans (Nat.mul_le_mul_right _ (nextslicecap_le (by omega))) (by simpa using hb.1))
     obtain ⟨N,g1,g2⟩:=grown_ok (z:=zv) (e:=e) (olds:=[]) (n:=0) (sCap:=0) hs.mem hf' (l:=l) (by simpa using hnews) (by simp) hcount hzc (by omega)
     simp only [Nat.zero_add] at hr g1 g2
     exact ok_step hs hk (run _ _ _ h1 hr) (g1.noteO (fun u hu=>⟨_,by rw [←hs.mem.len]; simp; rfl,(hty u hu).symm⟩)) g2
    ·cases he
  ·rename_i b off n cap e0 hx'
   rw [hx'] at h1; simp only [VT,VR] at h1
   obtain ⟨Y,C,hY,hr0,hnC,hCm,hcap⟩:=h1
   split at he
   ·rename_i c own hb
    obtain ⟨Y',hY',rc,te,fz,g1,g2,g3,g4⟩:=hs.mem.blk _ _ hb
    rw [hY] at hY'; cases hY'
    -- the cells of the old slice
    have holds:∀ old,cellsAt c off (n*i.size)=some old→∃ olds:List Value,VRs ρ old olds∧olds.length=n*i.size∧
      (∀ w':World,(∀ p,w'.cell? p=w.cell? p)→(Builtin.firstCells i.size n (.slice (some ⟨Y.blk,Y.off+off,none⟩) n C)).run P w'=.ok olds.toArray w')∧
      olds=(rc.toList.drop (Y.off+off)).take (n*i.size):=by
     intro old hold
     have hread:s.read (.ptr b off) (n*i.size)=some old:=by simp [St.read,hb,hold]
     obtain ⟨b',off',vs,hr,k1,k2,k3⟩:=read_ok (r:=.pointer (some ⟨Y.blk,Y.off+off,none⟩)) hs (by simp only [VT,VR]; exact ⟨Y,hY,rfl⟩) hread
     cases hr
     refine ⟨vs,k1,k2,fun w' hw=>run_firstCells_some (P:=P) w' i.size n _ n C vs k2 (fun j u hj=>by rw [Addr.add_lit,hw]; exact k3 j u hj),?_⟩
     apply List.ext_getElem?
     intro j
     by_cases hj:j < n*i.size
     ·have hvj:vs[j]?=some (vs[j]'(by omega)):=by simp [k2,hj]
      have:=k3 j _ hvj
      rw [cell_row g1] at this
      rw [hvj,List.getElem?_take,if_pos hj,List.getElem?_drop,Array.getElem?_toList,this]
     ·rw [List.getElem?_eq_none (by omega),List.getElem?_eq_none (by simp; omega)]
    split at he
    ·-- the capacity is known
     rename_i cp
     simp only at hcap
     subst hcap
     split at he
     ·rename_i hroom
      split at he
      ·rename_i hown
       subst hown
       split at he
       ·rename_i hl
        simp only [Option.some.injEq,Prod.mk.injEq] at he
        obtain ⟨rfl,rfl⟩:=he
        obtain ⟨rfl,g5⟩:=g3 rfl
        have hnm:off+n*i.size+l.length≤c.length:=by
         have:=hnews.length; rw [hcount] at this; rw [←this]; rw [Nat.add_mul] at hl; omega
        have hnl:news.length=l.length:=hnews.length
        have hrun:=run_app_room (P:=P) t t' o.type e d hd i ht ht' hi Y.blk (Y.off+off) n C m (a.eval y) news hsrc hn1 rc te g1 hroom (by omega)
        by_cases hne:l=[]
        ·subst hne
         have hn0:news=[]:=List.eq_nil_of_length_eq_zero (by simpa using hnl)
         subst hn0
         refine ok_step hs hk (run _ _ _ hr0 hrun) (MStep.set hs.mem hb rfl hY rfl rfl rfl (by rw [setRow_size]; exact Nat.le_refl _) (fun k hk=>setRow_ne hk)
          ⟨_,te,(0,0),setRow_heap w _ _ _ _ _ g1,?_,fun _=>⟨rfl,?_,g5.2⟩,?_⟩) ?_
         ·simpa [splice] using g2
         ·rw [g5.1]; simp
         ·simp [splice]; omega
         ·simp only [VR]; exact ⟨Y,C,hY,rfl,hroom,hCm,rfl⟩
        ·obtain ⟨k1,k2,k3⟩:=splice_vrs (o:=off+n*i.size) g2 hnews (by omega) hne
         refine ok_step hs hk (run _ _ _ hr0 hrun) (MStep.set hs.mem hb rfl hY rfl rfl rfl (by rw [setRow_size]; exact Nat.le_refl _) (fun k hk=>setRow_ne hk)
          ⟨_,te,(0,0),setRow_heap w _ _ _ _ _ g1,?_,fun _=>⟨rfl,?_,g5.2⟩,?_⟩) ?_
         ·simpa [Nat.add_assoc] using k2
         ·rw [g5.1]; simp; omega
         ·rw [k3]; simp; omega
         ·simp only [VR]; exact ⟨Y,C,hY,rfl,hroom,hCm,rfl⟩
       ·cases he
      ·cases he
     ·rename_i hroom
      split at he
      ·rename_i old hold
       split at he
       ·rename_i hbd
        simp only [Option.some.injEq,Prod.mk.injEq] at he
        obtain ⟨rfl,rfl⟩:=he
        obtain ⟨olds,q1,q2,q3,q4⟩:=holds old hold
        have hrun:=run_app_grow (P:=P) t t' o.type e d hd i zv ht ht' hi hzv (some ⟨Y.blk,Y.off+off,none⟩) n C m (a.eval y) olds news q3 hsrc (by omega) hbd.2
         (Nat.le_trans (Nat.mul_le_mul_right _ (nextslicecap_le (by omega))) hbd.1)
        obtain ⟨N,p1,p2⟩:=grown_ok (z:=zv) (e:=e) (n:=n) (m:=m) (sCap:=C) hs.mem hf' (l:=old++l) (q1.append hnews) q2 hcount hzc hbd.2
        exact ok_step hs hk (run _ _ _ hr0 hrun) (p1.noteO (fun u hu=>⟨_,by rw [←hs.mem.len]; simp; rfl,(hty u hu).symm⟩)) p2
       ·cases he
      ·cases he
    ·-- the capacity is what the block has
     split at he
     case isFalse=>cases he
     rename_i hown
     subst hown
     split at he
     case isFalse=>cases he
     rename_i hes
     obtain ⟨rfl,_⟩:=hes
     obtain ⟨rfl,g5⟩:=g3 rfl
     have hcap':Y.off+off+C*i.size=Y.size:=by
      rcases hcap with h | h
      ·exact h
      ·omega
     have hnl:news.length=l.length:=hnews.length
     split at he
     ·rename_i hl
      simp only [Option.some.injEq,Prod.mk.injEq] at he
      obtain ⟨rfl,rfl⟩:=he
      have hroom:n+m≤C:=by
       have:(n+m)*i.size≤C*i.size:=by omega
       exact Nat.le_of_mul_le_mul_right this hpos
      have hnm:off+n*i.size+l.length≤c.length:=by rw [←hnl,hcount]; rw [Nat.add_mul] at hl; omega
      have hrun:=run_app_room (P:=P) t t' o.type e d hd i ht ht' hi Y.blk (Y.off+off) n C m (a.eval y) news hsrc hn1 rc te g1 hroom (by omega)
      by_cases hne:l=[]
      ·subst hne
       have hn0:news=[]:=List.eq_nil_of_length_eq_zero (by simpa using hnl)
       subst hn0
       refine ok_step hs hk (run _ _ _ hr0 hrun) (MStep.set hs.mem hb rfl hY rfl rfl rfl (by rw [setRow_size]; exact Nat.le_refl _) (fun k hk=>setRow_ne hk)
        ⟨_,te,(0,0),setRow_heap w _ _ _ _ _ g1,?_,fun _=>⟨rfl,?_,g5.2⟩,?_⟩) ?_
       ·simpa [splice] using g2
       ·rw [g5.1]; simp
       ·simp [splice]; omega
       ·simp only [VR]; exact ⟨Y,C,hY,rfl,hroom,hCm,.inl hcap'⟩
      ·obtain ⟨k1,k2,k3⟩:=splice_vrs (o:=off+n*i.size) g2 hnews (by omega) hne
       refine ok_step hs hk (run _ _ _ hr0 hrun) (MStep.set hs.mem hb rfl hY rfl rfl rfl (by rw [setRow_size]; exact Nat.le_refl _) (fun k hk=>setRow_ne hk)
        ⟨_,te,(0,0),setRow_heap w _ _ _ _ _ g1,?_,fun _=>⟨rfl,?_,g5.2⟩,?_⟩) ?_
       ·simpa [Nat.add_assoc] using k2
       ·rw [g5.1]; simp; omega
       ·rw [k3]; simp; omega
       ·simp only [VR]; exact ⟨Y,C,hY,rfl,hroom,hCm,.inl hcap'⟩
     ·split at he
      ·rename_i old hold
       split at he
       ·rename_i hbd
        simp only [Option.some.injEq,Prod.mk.injEq] at he
        obtain ⟨rfl,rfl⟩:=he
        obtain ⟨olds,q1,q2,q3,q4⟩:=holds old hold
        have hdead:MStep P ρ s.m w ρ (s.m.set b .dead) w:=MStep.set hs.mem hb rfl hY rfl rfl rfl (Nat.le_refl _) (fun _ _=>rfl) trivial
        by_cases hroom:n+m≤C
        ·-- in place
         have hle:(n+m)*i.size≤C*i.size:=Nat.mul_le_mul_right _ hroom
         rw [Nat.add_mul] at hle
         have hrun:=run_app_room (P:=P) t t' o.type e d hd i ht ht' hi Y.blk (Y.off+off) n C m (a.eval y) news hsrc hn1 rc te g1 hroom (by omega)
         have hset:MStep P ρ s.m w ρ (s.m.set b .dead) (w.setRow Y.blk (rc.toList.take (Y.off+off+n*i.size)++news++rc.toList.drop (Y.off+off+n*i.size+news.length)).toArray):=
          MStep.set hs.mem hb rfl hY rfl rfl rfl (by rw [setRow_size]; exact Nat.le_refl _) (fun k hk=>setRow_ne hk) trivial
         have hna:¬AliveM ρ (s.m.set b .dead) Y.blk:=AliveM.dead hs.mem hb rfl hY
         have hfd:(s.m.set b .dead).full=false:=hf'
         have hlen:(old++l).length=(n+m)*i.size:=by
          have:=q1.length; rw [q2] at this; rw [List.length_append,←this,←hnl,hcount,Nat.add_mul]
         have hbr:BR ρ ⟨Y.blk,Y.off+off,Y.size,Y.ty⟩ (w.setRow Y.blk (rc.toList.take (Y.off+off+n*i.size)++news++rc.toList.drop (Y.off+off+n*i.size+news.length)).toArray) (.cells (old++l) true):=by
          refine ⟨_,te,(0,0),setRow_heap w _ _ _ _ _ g1,?_,fun _=>⟨rfl,?_,g5.2⟩,?_⟩
          ·have hl2:(((rc.toList.take (Y.off+off+n*i.size)++news++rc.toList.drop (Y.off+off+n*i.size+news.length)).toArray.toList.drop (Y.off+off)).take (old++l).length)=olds++news:=by
            rw [hlen,q4,Nat.add_mul]
            apply List.ext_getElem?
            intro j
            simp only [List.getElem?_take,List.getElem?_drop,List.getElem?_append,List.length_take,List.length_drop,List.length_append,Array.length_toList]
            grind
           dsimp only
           rw [hl2]
           exact q1.append hnews
          ·simp only [List.size_toArray,List.length_append,List.length_take,List.length_drop,Array.length_toList]; rw [g5.1]; omega
          ·simp only [List.size_toArray,List.length_append,List.length_take,List.length_drop,Array.length_toList] at hlen ⊢
           rw [Nat.add_mul] at hlen; omega
         have hpush:MR P (ρ++[⟨Y.blk,Y.off+off,Y.size,Y.ty⟩]) ((s.m.set b .dead).push (.cells (old++l) true)) _:=hset.mr.push (w':=w.setRow Y.blk (rc.toList.take (Y.off+off+n*i.size)++news++rc.toList.drop (Y.off+off+n*i.size+news.length)).toArray) hfd hna (fun _ _=>rfl) hbr
         have hblk:Y.blk < w.heap.size:=(Array.getElem?_eq_some_iff.1 g1).1
         have hownY:OwnM ρ s.m Y.blk:=⟨b,_,Y,hb,rfl,hY,rfl⟩
         have hstep:MStep P ρ s.m w (ρ++[⟨Y.blk,Y.off+off,Y.size,Y.ty⟩]) ((s.m.set b .dead).push (.cells (old++l) true)) (w.setRow Y.blk (rc.toList.take (Y.off+off+n*i.size)++news++rc.toList.drop (Y.off+off+n*i.size+news.length)).toArray):=by
          refine ⟨hpush,Rho.le_append _ _,⟨rfl,rfl,rfl,hset.fr.size,hset.fr.keep,fun k hk=>?_,fun k hk=>?_,hset.fr.drawn⟩⟩
          ·rcases OwnM.push hset.mr hfd hk with h | h
           ·exact hset.fr.own k h
           ·exact .inl (by rw [h]; exact hownY)
          ·rcases AliveM.push hset.mr hfd hk with h | h
           ·exact hset.fr.alive k h
           ·exact .inl (by rw [h]; exact hownY.alive)
         have hnote:∀ u,(if (s.m.tyOf b).map (·.1)=ty then ty else none)=some u→∃ x:At,(ρ++[⟨Y.blk,Y.off+off,Y.size,Y.ty⟩])[s.m.n]?=some x∧x.ty=u:=by
          intro u hu
          split at hu
          ·rename_i hb'
           rw [hu] at hb'
           obtain ⟨⟨u',z⟩,hq,hu'⟩:=Option.map_eq_some_iff.1 hb'
           simp only at hu'; subst hu'
           obtain ⟨Z,hZ,hZt,_⟩:=hs.mem.tys b _ z hq
           rw [hY] at hZ; cases hZ
           exact ⟨⟨Y.blk,Y.off+off,Y.size,Y.ty⟩,by rw [←hs.mem.len]; simp,hZt⟩
          ·cases hu
         refine ok_step hs hk (run _ _ _ hr0 hrun) (hstep.noteO hnote) ?_
         simp only [VR]
         exact ⟨⟨Y.blk,Y.off+off,Y.size,Y.ty⟩,C,by rw [←hs.mem.len]; simp,rfl,hroom,hCm,.inl (by simpa using hcap')⟩
        ·have hrun:=run_app_grow (P:=P) t t' o.type e d hd i zv ht ht' hi hzv (some ⟨Y.blk,Y.off+off,none⟩) n C m (a.eval y) olds news q3 hsrc (by omega) hbd.2
          (Nat.le_trans (Nat.mul_le_mul_right _ (nextslicecap_le (by omega))) hbd.1)
         obtain ⟨N,p1,p2⟩:=grown_ok (z:=zv) (e:=e) (n:=n) (m:=m) (sCap:=C) hdead.mr hf' (l:=old++l) (q1.append hnews) q2 hcount hzc hbd.2
         exact ok_step hs hk (run _ _ _ hr0 hrun) ((hdead.trans p1).noteO (fun u hu=>⟨_,by rw [←hs.mem.len]; simp; rfl,by
          split at hu
          ·exact (hty u hu).symm
          ·cases hu⟩)) p2
       ·cases he
      ·cases he
   ·cases he
  ·cases he
end
end
end AG
