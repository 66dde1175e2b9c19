/- The abstract machine, part 7: literals, numbers, addresses, slices. -/
import Derived.Test.YtkmbepgofajfkaaDoorAgOps2
namespace AG
noncomputable section
open Go Go.RowKit
inductive All2 {α β:Type} (R:α→β→Prop):List α→List β→Prop where
 | nil:All2 R [] []
 | cons {a:α} {b:β} {l:List α} {l':List β} (h:R a b) (t:All2 R l l'):All2 R (a::l) (b::l')
section
variable {P:Program} {o:Oper} {a:Act} {w w':World} {next:Act→World→Prop} {Q:Exit→Act→World→Prop}
variable {ρ ρ':Rho} {lam:Nat→Nat} {s s':St} {v:AV} {r:Value} {call:Caller}
theorem fold_splice (off:Nat):∀ (l:List Value) (k:Nat) (cells:Array Value),off+k+l.length≤cells.size→
  ((l.zipIdx k).foldl (fun cs x=>cs.setIfInBounds (off+x.2) x.1) cells).toList=cells.toList.take (off+k)++l++cells.toList.drop (off+k+l.length)
 | [],k,cells,_=>by simp
 | x::l,k,cells,h=>by
  simp only [List.length_cons] at h
  simp only [List.zipIdx_cons,List.foldl_cons]
  rw [fold_splice off l (k+1) _ (by simp; omega)]
  simp only [Array.toList_setIfInBounds,List.length_cons]
  apply List.ext_getElem?
  intro i
  simp only [List.getElem?_append,List.getElem?_take,List.getElem?_drop,List.length_take,List.length_append,List.length_set,Array.length_toList,List.getElem?_set,List.length_cons]
  grind
theorem fill_ok (place:Nat→Option (Nat×Nat)):∀ (qs:List (Nat×Nat×AV)) (ps:List (Nat×Value)) (c c':List AV) (rc:Array Value),
  All2 (fun q p=>place p.1=some (q.1,q.2.1)∧VT lam ρ q.2.2 p.2) qs ps→VRs ρ c rc.toList→fillEv c qs=some c'→
  ∃ rc',Instr.fill place rc ps=some rc'∧VRs ρ c' rc'.toList
 | [],ps,c,c',rc,hf,hc,he=>by
  cases hf
  simp only [fillEv,Option.some.injEq] at he; subst he
  exact ⟨rc,rfl,hc⟩
 | (off,k,v)::qs,ps,c,c',rc,hf,hc,he=>by
  cases hf with
  | cons h1 h2=>
   rename_i p ps
   obtain ⟨hp,hv⟩:=h1
   simp only [fillEv] at he
   split at he
   ·rename_i vs hvs
    split at he
    ·rename_i hk
     split at he
     ·rename_i hle
      have hcells:=cells_ok hv hvs
      have hsz:p.2.cells.size=k:=by rw [←Array.length_toList,hcells.length,hk]
      have hlen:rc.size=c.length:=by rw [←Array.length_toList,hc.length]
      obtain ⟨i,r⟩:=p
      dsimp only at hp hcells hsz
      have hfold:(r.cells.zipIdx.foldl (fun cs (x:Value×Nat)=>cs.setIfInBounds (off+x.2) x.1) rc).toList=rc.toList.take off++r.cells.toList++rc.toList.drop (off+r.cells.toList.length):=by
       have:=fold_splice off r.cells.toList 0 rc (by simp; omega)
       rw [←Array.foldl_toList,Array.toList_zipIdx]
       simpa using this
      obtain ⟨rc',h3,h4⟩:=fill_ok place qs ps (splice c off vs) c' (r.cells.zipIdx.foldl (fun cs (x:Value×Nat)=>cs.setIfInBounds (off+x.2) x.1) rc) h2 (by
       rw [hfold]; unfold splice
       rw [hcells.length]
       exact ((hc.take off).append hcells).append (hc.drop _)) he
      refine ⟨rc',?_,h4⟩
      simp only [Instr.fill,hp]
      rw [if_neg (by simp [hsz]; omega)]
      exact h3
     ·cases he
    ·cases he
   ·cases he
theorem run_places {fs:List Field}:∀ {l:List (Nat×Nat)},fieldsOf P fs=some l→(fs.mapM fun f=>(do pure (f.offset,←Go.sizeOf f.type):Sem (Nat×Nat))).run P w=.ok l w:=by
 induction fs with
 | nil=>intro l h; simp only [fieldsOf,Option.some.injEq] at h; subst h; simp
 | cons f r ih=>
  intro l h
  simp only [fieldsOf] at h
  split at h
  ·rename_i k l' hk hl
   cases h
   obtain ⟨i,hi,rfl⟩:=szOf_ok hk
   simp only [List.mapM_cons,Sem.run_bind,run_sizeOf hi,Result.andThen_ok,Sem.run_pure,ih hl]
  ·cases h
theorem parts3_ok (hs:SR P ρ lam s a w) {fields:List (Nat×Nat)}:∀ {ps:List (Nat×Operand)} {qs:List (Nat×Nat×Opd)},parts3 P fields ps=some qs→
  All2 (fun (q:Nat×Nat×AV) (p:Nat×Value)=>(fields.toArray[p.1]?)=some (q.1,q.2.1)∧VT lam ρ q.2.2 p.2) (qs.map fun (o,k,x)=>(o,k,s.opd x)) (ps.map fun (i,x)=>(i,a.eval x))
 | [],qs,h=>by simp only [parts3,Option.some.injEq] at h; subst h; exact .nil
 | (i,x)::r,qs,h=>by
  simp only [parts3] at h
  split at h
  ·rename_i o k y r' h1 h2 h3
   cases h
   exact .cons ⟨by simpa using h1,hs.opd h2⟩ (parts3_ok hs h3)
  ·cases h
theorem parts2_ok (hs:SR P ρ lam s a w) (sz:Nat):∀ {ps:List (Nat×Operand)} {qs:List (Nat×Opd)},parts2 P ps=some qs→
  All2 (fun (q:Nat×Nat×AV) (p:Nat×Value)=>(fun i=>some (i*sz,sz):Nat→Option (Nat×Nat)) p.1=some (q.1,q.2.1)∧VT lam ρ q.2.2 p.2) (qs.map fun (i,x)=>(i*sz,sz,s.opd x)) (ps.map fun (i,x)=>(i,a.eval x))
 | [],qs,h=>by simp only [parts2,Option.some.injEq] at h; subst h; exact .nil
 | (i,x)::r,qs,h=>by
  simp only [parts2] at h
  split at h
  ·rename_i y r' h2 h3
   cases h
   exact .cons ⟨rfl,hs.opd h2⟩ (parts2_ok hs sz h3)
  ·cases h
theorem op_build {t:TypeId} {ps:Array (Nat×Operand)} {z:List AV} {fs:Array Field} {l:List (Nat×Nat)} {qs:List (Nat×Nat×Opd)} (ho:o.op=.build t ps) (ht:P.underlying t=some (.struct fs))
  (hz:zeroOf P t=some z) (hl:fieldsOf P fs.toList=some l) (hq:parts3 P l ps.toList=some qs) (hs:SR P ρ lam s a w)
  (he:opEv call (.build z qs) s=some (v,s')) (hk:After P ρ lam s a w v s' o.dst next):o.wp P a w next Q:=by
 obtain ⟨i,zv,hi,hzv,rfl⟩:=zeroOf_ok hz
 simp only [opEv] at he
 split at he
 ·rename_i c hc
  simp only [Option.some.injEq,Prod.mk.injEq] at he
  obtain ⟨rfl,rfl⟩:=he
  obtain ⟨rc',h1,h2⟩:=fill_ok (fun i=>l.toArray[i]?) _ _ _ _ zv.cells (parts3_ok hs hq) (cAVs_ok ρ _) hc
  refine ok_plain hs hk (r:=.agg rc') ?_ (by simp only [VR]; exact ⟨rc',rfl,h2⟩)
  have hp:=run_places (w:=w) hl
  simp only [execOp,ho,Instr.build,Sem.run_bind,run_zero hi hzv,Result.andThen_ok,run_underlying ht,Array.mapM_eq_mapM_toList,Sem.run_map,hp,Array.toList_map]
  rw [h1]
  simp
 ·cases he
theorem op_buildA {t e:TypeId} {k sz:Nat} {ps:Array (Nat×Operand)} {z:List AV} {qs:List (Nat×Opd)} (ho:o.op=.build t ps) (ht:P.underlying t=some (.array k e))
  (hz:zeroOf P t=some z) (hsz:szOf P e=some sz) (hq:parts2 P ps.toList=some qs) (hs:SR P ρ lam s a w)
  (he:opEv call (.build z (qs.map fun (i,x)=>(i*sz,sz,x))) s=some (v,s')) (hk:After P ρ lam s a w v s' o.dst next):o.wp P a w next Q:=by
 obtain ⟨i,zv,hi,hzv,rfl⟩:=zeroOf_ok hz
 obtain ⟨i',hi',rfl⟩:=szOf_ok hsz
 simp only [opEv] at he
 split at he
 ·rename_i c hc
  simp only [Option.some.injEq,Prod.mk.injEq] at he
  obtain ⟨rfl,rfl⟩:=he
  rw [List.map_map] at hc
  obtain ⟨rc',h1,h2⟩:=fill_ok (fun j=>some (j*i'.size,i'.size)) _ _ _ _ zv.cells (parts2_ok hs i'.size hq) (cAVs_ok ρ _) hc
  refine ok_plain hs hk (r:=.agg rc') ?_ (by simp only [VR]; exact ⟨rc',rfl,h2⟩)
  simp only [execOp,ho,Instr.build,Sem.run_bind,run_zero hi hzv,Result.andThen_ok,run_underlying ht,run_sizeOf hi',Array.toList_map]
  rw [h1]
  simp
 ·cases he
theorem zeros_ok {z:List AV} {rz:Array Value} (n:Nat) (h:VRs ρ z rz.toList) (hp:0 < z.length):VRs ρ (zerosEv z n) ((Array.range n).map (rz[· % rz.size]!)).toList:=by
 have hl:rz.size=z.length:=by rw [←Array.length_toList,h.length]
 refine VRs.of_get (by simp [zerosEv]) (fun i v r h1 h2=>?_)
 simp only [zerosEv,List.getElem?_map,Array.getElem?_toList,Array.getElem?_map] at h1 h2
 by_cases hi:i < n
 ·have hlt:i % z.length < z.length:=Nat.mod_lt _ hp
  rw [List.getElem?_range hi] at h1
  rw [Array.getElem?_range,if_pos hi] at h2
  simp only [Option.map_some,Option.some.injEq] at h1 h2
  subst h1; subst h2
  rw [hl]
  have hz:z[i % z.length]?=some (z[i % z.length]):=by simp [hlt]
  obtain ⟨u,hu,hv⟩:=h.get hz
  have e1:z.getD (i % z.length) .unk=z[i % z.length]:=by simp [List.getD,hlt]
  have hlt':i % z.length < rz.size:=by omega
  have e2:rz[i % z.length]! = u:=by
   simp only [Array.getElem?_toList] at hu
   simp [hlt']
   have:=(Array.getElem?_eq_some_iff.1 hu).2
   exact this
  rw [e1,e2]; exact hv
 ·rw [List.getElem?_eq_none (by simp; omega)] at h1; simp at h1
theorem run_newRow {e:TypeId} {rc:Array Value}:(newRow e rc).run P w=.ok ⟨w.heap.size,0,none⟩ (w.alloc (.cells rc e)):=by
 simp [newRow]
theorem op_mkslc {t e:TypeId} {len sz:Nat} {ps:Array (Nat×Operand)} {z:List AV} {qs:List (Nat×Opd)} (ho:o.op=.buildSlice t len ps) (ht:P.underlying t=some (.slice e))
  (hsz:szOf P e=some sz) (hz:zeroOf P e=some z) (hq:parts2 P ps.toList=some qs) (hzl:z.length=sz) (hpos:0 < sz) (hlen:len≤maxLen) (hs:SR P ρ lam s a w)
  (he:opEv call (.mkslc sz len z qs) s=some (v,s')) (hk:After P ρ lam s a w v s' o.dst next):o.wp P a w next Q:=by
 obtain ⟨i,zv,hi,hzv,rfl⟩:=zeroOf_ok hz
 obtain ⟨i',hi',rfl⟩:=szOf_ok hsz
 rw [hi] at hi'; cases hi'
 simp only [opEv] at he
 split at he
 ·rename_i hb
  split at he
  ·rename_i c hc
   split at he
   ·cases he
   ·rename_i hf
    simp only [Option.some.injEq,Prod.mk.injEq] at he
    obtain ⟨rfl,rfl⟩:=he
    by_cases h0:len*i.size=0
    ·have hl0:len=0:=by
      rcases Nat.mul_eq_zero.1 h0 with h | h
      ·exact h
      ·omega
     subst hl0
     obtain ⟨rc',h1,h2⟩:=fill_ok (fun j=>some (j*i.size,i.size)) _ _ _ _ ((Array.range (0*i.size)).map ((#[]:Array Value)[· % (#[]:Array Value).size]!)) (parts2_ok hs i.size hq) (by simp [zerosEv,VRs]) hc
     have hlen':=h2.length
     refine ok_step hs hk (w':=w.alloc (.cells rc' e)) (r:=.slice (some ⟨w.heap.size,0,none⟩) 0 0) ?_ (MStep.new (n:=rc'.size) (t:=e) hs.mem (by simpa using hf) ⟨rc',e,(0,0),heap_alloc_new w _,?_,fun _=>⟨rfl,rfl,rfl⟩,by simp at hlen'; dsimp only; omega⟩) ?_
     ·have hb':¬(0*i.size > 2 ^ 24):=by omega
      simp only [execOp,ho,Instr.buildSlice,Sem.run_bind,run_underlying ht,run_sizeOf hi,Result.andThen_ok,Sem.run_ite,if_neg hb',if_pos h0,Sem.run_pure,Array.toList_map]
      rw [h1]
      simp [run_newRow]
     ·rw [List.drop_zero,List.take_of_length_le (by omega)]; exact h2
     ·simp only [VR]
      exact ⟨⟨w.heap.size,0,rc'.size,e⟩,0,by rw [←hs.mem.len]; simp,rfl,Nat.le_refl _,Nat.zero_le _,rfl⟩
    ·obtain ⟨rc',h1,h2⟩:=fill_ok (fun j=>some (j*i.size,i.size)) _ _ _ _ ((Array.range (len*i.size)).map (zv.cells[· % zv.cells.size]!)) (parts2_ok hs i.size hq) (zeros_ok _ (cAVs_ok ρ _) (by omega)) hc
     have hlen':=h2.length
     refine ok_step hs hk (w':=w.alloc (.cells rc' e)) (r:=.slice (some ⟨w.heap.size,0,none⟩) len len) ?_ (MStep.new (n:=rc'.size) (t:=e) hs.mem (by simpa using hf) ⟨rc',e,(0,0),heap_alloc_new w _,?_,fun _=>⟨rfl,rfl,rfl⟩,by simp at hlen'; dsimp only; omega⟩) ?_
     ·have hb':¬(len*i.size > 2 ^ 24):=by omega
      simp only [execOp,ho,Instr.buildSlice,Sem.run_bind,run_underlying ht,run_sizeOf hi,Result.andThen_ok,Sem.run_ite,if_neg hb',if_neg h0,run_zero hi hzv,Sem.run_pure,Array.toList_map]
      rw [h1]
      simp [run_newRow]
     ·rw [List.drop_zero,List.take_of_length_le (by omega)]; exact h2
     ·simp only [VR]
      exact ⟨⟨w.heap.size,0,rc'.size,e⟩,len,by rw [←hs.mem.len]; simp,rfl,Nat.le_refl _,hlen,rfl⟩
  ·cases he
 ·cases he
end
end
end AG
