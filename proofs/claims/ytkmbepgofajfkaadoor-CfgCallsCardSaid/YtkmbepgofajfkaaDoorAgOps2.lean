/- The abstract machine, part 6: loads, stores, literals. -/
import Derived.Test.YtkmbepgofajfkaaDoorAgOps1
namespace AG
noncomputable section
open Go Go.RowKit
theorem list_splice {α:Type} (L vs:List α) (X o n:Nat) (h:o+vs.length≤n) (hn:X+n≤L.length):
  ((L.take (X+o)++vs++L.drop (X+o+vs.length)).drop X).take n=((L.drop X).take n).take o++vs++((L.drop X).take n).drop (o+vs.length):=by
 apply List.ext_getElem?
 intro i
 simp only [List.getElem?_take,List.getElem?_drop,List.getElem?_append,List.length_take,List.length_drop,List.length_append]
 grind
section
variable {P:Program} {o:Oper} {a:Act} {w w':World} {next:Act→World→Prop} {Q:Exit→Act→World→Prop}
variable {ρ ρ':Rho} {lam:Nat→Nat} {s s':St} {v:AV} {r:Value}
theorem one_ok {v:AV} {r:Value} (h:VR ρ v r) (h1:v.one=true):r.oneCell'=true:=by
 cases v <;> simp only [AV.one,Bool.false_eq_true] at h1 <;> simp only [VR] at h <;>
  first
   | (subst h; rfl)
   | (obtain ⟨_,_,rfl⟩:=h; rfl)
   | (obtain ⟨_,_,_,rfl,_⟩:=h; rfl)
   | (obtain ⟨_,rfl,_⟩:=h; rfl)
theorem ones_ok:∀ {vs:List AV} {rs:List Value},VRs ρ vs rs→vs.all AV.one=true→∀ r∈rs,r.oneCell'=true
 | [],rs,h,_=>by simp only [VRs] at h; subst h; simp
 | v::l,rs,h,h1=>by
  simp only [VRs] at h
  obtain ⟨r,rest,rfl,ha,hb⟩:=h
  simp only [List.all_cons,Bool.and_eq_true] at h1
  intro x hx
  rcases List.mem_cons.1 hx with rfl | hx
  ·exact one_ok ha h1.1
  ·exact ones_ok hb h1.2 x hx
theorem zeroOf_ok {t:TypeId} {z:List AV} (h:zeroOf P t=some z):∃ i zv,P.info? t=some i∧i.zero=some zv∧z=cAV.go zv.cells.toList:=by
 unfold zeroOf at h
 split at h
 ·rename_i i hi
  split at h
  ·rename_i zv hz; cases h; exact ⟨i,zv,hi,hz,rfl⟩
  ·cases h
 ·cases h
theorem szOf_ok {t:TypeId} {k:Nat} (h:szOf P t=some k):∃ i,P.info? t=some i∧i.size=k:=by
 unfold szOf at h
 cases hi:P.info? t with
 | none=>simp [hi] at h
 | some i=>simp [hi] at h; exact ⟨i,rfl,h⟩
theorem run_isAgg {t:TypeId} {b:Bool} (h:aggq P t=some b) (w:World):(isAgg t).run P w=.ok b w:=by
 unfold aggq at h
 split at h
 ·rename_i f hu; cases h; simp [isAgg,run_underlying hu]
 ·rename_i n e hu; cases h; simp [isAgg,run_underlying hu]
 ·rename_i d h1 h2 hu
  cases h
  simp only [isAgg,Sem.run_bind,run_underlying hu,Result.andThen_ok]
  rfl
 ·cases h
theorem run_sizeOf {t:TypeId} {i:TypeInfo} (h:P.info? t=some i) (w:World):(Go.sizeOf t).run P w=.ok i.size w:=by
 simp [Go.sizeOf,typeInfo,h]
theorem run_zero {t:TypeId} {i:TypeInfo} {z:Value} (h:P.info? t=some i) (hz:i.zero=some z) (w:World):(zeroValue t).run P w=.ok z w:=by
 simp [zeroValue,typeInfo,h,hz]
theorem cell_row {w:World} {g:Nat} {rc:Array Value} {e:TypeId} {fz:Nat×Nat} (h:w.heap[g]?=some (.cells rc e fz)) (k:Nat):w.cell? ⟨g,k,none⟩=rc[k]?:=by
 simp [World.cell?,h]
theorem read_ok {x:AV} {k:Nat} {l:List AV} (hs:SR P ρ lam s a w) (hx:VT lam ρ x r) (he:s.read x k=some l):
  ∃ b off vs,r=.pointer (some ⟨b,off,none⟩)∧VRs ρ l vs∧vs.length=k∧∀ (j:Nat) u,vs[j]?=some u→w.cell? ⟨b,off+j,none⟩=some u:=by
 have key:∀ (c:List AV) (o:Nat) (rl:List Value),VRs ρ c rl→cellsAt c o k=some l→VRs ρ l ((rl.drop o).take k)∧((rl.drop o).take k).length=k:=by
  intro c o rl hc hcell
  unfold cellsAt at hcell
  split at hcell
  ·rename_i hlen
   cases hcell
   exact ⟨(hc.drop o).take k,by simp [hc.length]; omega⟩
  ·cases hcell
 unfold St.read at he
 split at he
 ·rename_i b o
  split at he
  ·rename_i c own hb
   obtain ⟨y,hy,rc,e,fz,h1,h2,h3,h4⟩:=hs.mem.blk _ _ hb
   simp only [VT,VR] at hx
   obtain ⟨y',hy',rfl⟩:=hx
   rw [hy] at hy'; cases hy'
   obtain ⟨k1,k2⟩:=key _ _ _ h2 he
   refine ⟨_,_,_,rfl,k1,k2,fun j u hj=>?_⟩
   rw [cell_row h1]
   simp only [List.getElem?_take,List.getElem?_drop] at hj
   split at hj
   ·split at hj
    ·rw [←Array.getElem?_toList,←hj]; congr 1; omega
    ·cases hj
   ·cases hj
  ·cases he
 ·rename_i t o
  split at he
  ·rename_i c hc
   obtain ⟨rc,e,h1,h2⟩:=hs.loc t c hc
   simp only [VT] at hx
   subst hx
   obtain ⟨k1,k2⟩:=key _ _ _ h2 he
   refine ⟨_,_,_,rfl,k1,k2,fun j u hj=>?_⟩
   rw [cell_row h1]
   simp only [List.getElem?_take,List.getElem?_drop] at hj
   split at hj
   ·rw [←Array.getElem?_toList,←hj]
   ·cases hj
  ·cases he
 ·cases he
theorem splice_vrs {c:List AV} {rc:Array Value} {vs:List AV} {rvs:List Value} {X o:Nat} (h:VRs ρ c ((rc.toList.drop X).take c.length)) (hv:VRs ρ vs rvs)
  (hl:o+vs.length≤c.length) (hne:vs≠[]):
  X+c.length≤rc.size∧VRs ρ (splice c o vs) (((rc.toList.take (X+o)++rvs++rc.toList.drop (X+o+rvs.length)).drop X).take (splice c o vs).length)∧
   (splice c o vs).length=c.length:=by
 have hlen:=h.length
 have hvl:=hv.length
 have hpos:0 < vs.length:=List.length_pos_iff.2 hne
 simp only [List.length_take,List.length_drop,Array.length_toList] at hlen
 have hX:X+c.length≤rc.size:=by omega
 have hsl:(splice c o vs).length=c.length:=by simp [splice]; omega
 refine ⟨hX,?_,hsl⟩
 rw [hsl,list_splice rc.toList rvs X o c.length (by omega) (by simpa using hX),hvl]
 unfold splice
 exact ((h.take o).append hv).append (h.drop _)
theorem setRow_ne {w:World} {g k:Nat} {cs:Array Value} (h:k≠g):(w.setRow g cs).heap[k]?=w.heap[k]?:=setRow_other w g k cs h
theorem setRow_size (w:World) (g:Nat) (cs:Array Value):(w.setRow g cs).heap.size=w.heap.size:=by simp [World.setRow]
theorem write_ok {x:AV} {vs:List AV} {rvs:List Value} (hs:SR P ρ lam s a w) (hx:VT lam ρ x r) (hv:VRs ρ vs rvs) (he:s.write x vs=some s'):
  ∃ b off w',r=.pointer (some ⟨b,off,none⟩)∧(storeCells ⟨b,off,none⟩ rvs 0).run P w=.ok () w'∧SR P ρ lam s' a w'∧
   Fr (OwnS ρ lam s) (AliveS ρ lam s) w (OwnS ρ lam s') (AliveS ρ lam s') w':=by
 unfold St.write at he
 split at he
 case isFalse=>cases he
 rename_i hone
 simp only [Bool.and_eq_true,Bool.not_eq_true',List.isEmpty_eq_false_iff] at hone
 have h1:=ones_ok hv hone.1
 have hvl:=hv.length
 split at he
 ·rename_i b o
  split at he
  ·rename_i c hb
   split at he
   ·rename_i hl
    cases he
    obtain ⟨y,hy,rc,e,fz,g1,g2,g3,g5⟩:=hs.mem.blk _ _ hb
    obtain ⟨rfl,g4⟩:=g3 rfl
    simp only [VT,VR] at hx
    obtain ⟨y',hy',rfl⟩:=hx
    rw [hy] at hy'; cases hy'
    obtain ⟨k1,k2,k3⟩:=splice_vrs g2 hv hl hone.2
    refine ⟨_,_,_,rfl,run_storeCells_at P y.blk (y.off+o) e rvs 0 rc w g1 (by omega) h1,?_⟩
    have hm:MStep P ρ s.m w ρ (s.m.set b (.cells (splice c o vs) true)) (w.setRow y.blk (rc.toList.take (y.off+o+0)++rvs++rc.toList.drop (y.off+o+0+rvs.length)).toArray):=by
     refine MStep.set hs.mem hb rfl hy rfl rfl rfl (by rw [setRow_size]; exact Nat.le_refl _) (fun k hk=>setRow_ne hk) ?_
     refine ⟨_,e,(0,0),setRow_heap w _ _ _ _ _ g1,?_,fun _=>⟨rfl,?_,g4.2⟩,?_⟩
     ·simpa using k2
     ·rw [g4.1]; simp; omega
     ·rw [k3]; simp; omega
    exact hs.step hm
   ·cases he
  ·cases he
 ·rename_i t o
  split at he
  ·rename_i c hc
   split at he
   ·rename_i hl
    cases he
    obtain ⟨rc,e,g1,g2⟩:=hs.loc t c hc
    simp only [VT] at hx
    subst hx
    have hrc:rc.toList.length=c.length:=g2.length
    have hrc':rc.size=c.length:=by simpa using hrc
    have g2':VRs ρ c ((rc.toList.drop 0).take c.length):=by rw [List.drop_zero,List.take_of_length_le (by omega)]; exact g2
    obtain ⟨k1,k2,k3⟩:=splice_vrs g2' hv hl hone.2
    refine ⟨_,_,_,rfl,run_storeCells_at P (lam t) o e rvs 0 rc w g1 (by omega) h1,?_⟩
    have hne:∀ k,k≠lam t→(w.setRow (lam t) (rc.toList.take (o+0)++rvs++rc.toList.drop (o+0+rvs.length)).toArray).heap[k]?=w.heap[k]?:=fun k hk=>setRow_ne hk
    refine ⟨⟨hs.size,hs.defers,hs.tmp,fun u t' o' hu=>?_,fun t' c' hc'=>?_,fun t1 t2 c1 c2 h1 h2=>?_,fun t' c' hc'=>?_,hs.mem.of_heap (fun k hk=>hne k (fun e=>hs.lmem t c hc (e▸hk)))⟩,?_⟩
    ·obtain ⟨c0,hc0⟩:=hs.live u t' o' hu
     by_cases e':t=t'
     ·subst e'; exact ⟨_,lookL_setL_same _ _ _⟩
     ·exact ⟨c0,by dsimp only; rw [lookL_setL_ne _ _ _ _ e']; exact hc0⟩
    ·dsimp only at hc'
     by_cases e':t=t'
     ·subst e'
      rw [lookL_setL_same] at hc'; cases hc'
      refine ⟨_,e,setRow_heap w _ _ _ _ _ g1,?_⟩
      have k2':=k2
      rw [k3,List.drop_zero,List.take_of_length_le (by simp; omega)] at k2'
      simpa using k2'
     ·rw [lookL_setL_ne _ _ _ _ e'] at hc'
      obtain ⟨rc',e2,m1,m2⟩:=hs.loc t' c' hc'
      exact ⟨rc',e2,by rw [hne _ (fun e3=>e' (hs.linj _ _ _ _ hc' hc e3).symm)]; exact m1,m2⟩
    ·have st:∀ t' c',lookL (setL s.l t (splice c o vs)) t'=some c'→∃ c'',lookL s.l t'=some c'':=fun t' c' h=>by
      by_cases e':t=t'
      ·subst e'; exact ⟨c,hc⟩
      ·rw [lookL_setL_ne _ _ _ _ e'] at h; exact ⟨c',h⟩
     obtain ⟨_,q1⟩:=st _ _ h1
     obtain ⟨_,q2⟩:=st _ _ h2
     exact hs.linj _ _ _ _ q1 q2
    ·dsimp only at hc'
     by_cases e':t=t'
     ·subst e'; exact hs.lmem t c hc
     ·rw [lookL_setL_ne _ _ _ _ e'] at hc'; exact hs.lmem t' c' hc'
    ·have hl':∀ k,LocK lam (setL s.l t (splice c o vs)) k→LocK lam s.l k:=by
      rintro k ⟨t',c',hc',rfl⟩
      by_cases e':t=t'
      ·subst e'; exact ⟨t,c,hc,rfl⟩
      ·rw [lookL_setL_ne _ _ _ _ e'] at hc'; exact ⟨t',c',hc',rfl⟩
     exact ⟨rfl,rfl,rfl,by rw [setRow_size]; exact Nat.le_refl _,fun k _ hn=>hne k (fun e=>hn (.inr ⟨t,c,hc,e.symm⟩)),
      fun k hk=>.inl (hk.imp id (hl' k)),fun k hk=>.inl (hk.imp id (hl' k)),(by first | exact Nat.le_refl _ | exact Nat.le_succ _ | simp)⟩
   ·cases he
  ·cases he
 ·cases he
end
section
variable {P:Program} {o:Oper} {a:Act} {w w':World} {next:Act→World→Prop} {Q:Exit→Act→World→Prop}
variable {ρ ρ':Rho} {lam:Nat→Nat} {s s':St} {v:AV} {r:Value} {call:Caller}
theorem op_mov {x:Operand} {y:Opd} (ho:o.op=.move x∨o.op=.assign x) (hx:opd P x=some y) (hs:SR P ρ lam s a w) (he:opEv call (.mov y) s=some (v,s'))
  (hk:After P ρ lam s a w v s' o.dst next):o.wp P a w next Q:=by
 simp only [opEv,Option.some.injEq,Prod.mk.injEq] at he
 obtain ⟨rfl,rfl⟩:=he
 exact ok_pure hs hk (by rcases ho with ho | ho <;> simp [execOp,ho]) (hs.opd hx) (hs.opd_live hx)
theorem op_pick {c x y:Operand} {c' x' y':Opd} (ho:o.op=.pick c x y) (hc:opd P c=some c') (hx:opd P x=some x') (hy:opd P y=some y') (hs:SR P ρ lam s a w)
  (he:opEv call (.pick c' x' y') s=some (v,s')) (hk:After P ρ lam s a w v s' o.dst next):o.wp P a w next Q:=by
 simp only [opEv] at he
 split at he
 ·rename_i t ht
  simp only [Option.some.injEq,Prod.mk.injEq] at he
  obtain ⟨rfl,rfl⟩:=he
  have h:=hs.opd hc
  rw [ht] at h; simp only [VT,VR] at h
  cases t
  ·exact ok_pure hs hk (r:=a.eval y) (by simp [execOp,ho,h,asBool]) (by simpa using hs.opd hy) (by simpa using hs.opd_live hy)
  ·exact ok_pure hs hk (r:=a.eval x) (by simp [execOp,ho,h,asBool]) (by simpa using hs.opd hx) (by simpa using hs.opd_live hx)
 ·cases he
theorem op_alloc {t:TypeId} {z:List AV} {p:Option Nat} (ho:o.op=.alloc t) (hz:zeroOf P t=some z) (hs:SR P ρ lam s a w)
  (he:opEv call (.alloc p z) s=some (v,s')) (hk:After P ρ lam s a w v s' o.dst next):o.wp P a w next Q:=by
 obtain ⟨i,zv,hi,hzv,rfl⟩:=zeroOf_ok hz
 simp only [opEv] at he
 refine ok_new (rc:=zv.cells) (e:=t) hs he hk ?_ (cAVs_ok ρ _)
 simp [execOp,ho,Instr.alloc,run_zero hi hzv,newVar,newRow]
theorem op_box {t:TypeId} {x:Operand} {y:Opd} {p:Option Nat} (ho:o.op=.box t x) (hx:opd P x=some y) (hs:SR P ρ lam s a w)
  (he:opEv call (.box p y) s=some (v,s')) (hk:After P ρ lam s a w v s' o.dst next):o.wp P a w next Q:=by
 simp only [opEv] at he
 split at he
 ·rename_i cs hcs
  refine ok_new (rc:=(a.eval x).cells) (e:=t) hs he hk ?_ (cells_ok (hs.opd hx) hcs)
  simp [execOp,ho,Instr.box,newVar,newRow]
 ·cases he
theorem run_loadAt_one {t:TypeId} {b off:Nat} {u:Value} (hg:aggq P t=some false) (hc:w.cell? ⟨b,off,none⟩=some u):
  (Instr.loadAt t (.pointer (some ⟨b,off,none⟩))).run P w=.ok u w:=by
 simp [Instr.loadAt,Instr.sureAddr,loadVar,run_isAgg hg,hc]
theorem run_loadAt_agg {t:TypeId} {b off:Nat} {i:TypeInfo} {vs:List Value} (hg:aggq P t=some true) (hi:P.info? t=some i) (hl:vs.length=i.size)
  (hc:∀ (j:Nat) u,vs[j]?=some u→w.cell? ⟨b,off+j,none⟩=some u):
  (Instr.loadAt t (.pointer (some ⟨b,off,none⟩))).run P w=.ok (.agg vs.toArray) w:=by
 have:=run_loadCells_list (P:=P) w ⟨b,off,none⟩ vs (fun j u hj=>by rw [Addr.add_lit]; exact hc j u hj)
 rw [hl] at this
 simp [Instr.loadAt,Instr.sureAddr,loadVar,run_isAgg hg,run_sizeOf hi,this]
theorem op_load1 {t:TypeId} {x:Operand} {y:Opd} (ho:o.op=.load t x) (hg:aggq P t=some false) (hx:opd P x=some y) (hs:SR P ρ lam s a w)
  (he:opEv call (.load none y) s=some (v,s')) (hk:After P ρ lam s a w v s' o.dst next):o.wp P a w next Q:=by
 simp only [opEv] at he
 split at he
 ·rename_i u hu
  simp only [Option.some.injEq,Prod.mk.injEq] at he
  obtain ⟨rfl,rfl⟩:=he
  obtain ⟨b,off,vs,hr,h1,h2,h3⟩:=read_ok hs (hs.opd hx) hu
  simp only [VRs] at h1
  obtain ⟨r0,rest,rfl,hv,rfl⟩:=h1
  have hc:=h3 0 r0 rfl
  simp only [Nat.add_zero] at hc
  exact ok_plain hs hk (by simp [execOp,ho,hr,run_loadAt_one hg hc]) hv
 ·cases he
theorem op_loadk {t:TypeId} {k:Nat} {x:Operand} {y:Opd} (ho:o.op=.load t x) (hg:aggq P t=some true) (hz:szOf P t=some k) (hx:opd P x=some y) (hs:SR P ρ lam s a w)
  (he:opEv call (.load (some k) y) s=some (v,s')) (hk:After P ρ lam s a w v s' o.dst next):o.wp P a w next Q:=by
 obtain ⟨i,hi,rfl⟩:=szOf_ok hz
 simp only [opEv] at he
 split at he
 ·rename_i l hu
  simp only [Option.some.injEq,Prod.mk.injEq] at he
  obtain ⟨rfl,rfl⟩:=he
  obtain ⟨b,off,vs,hr,h1,h2,h3⟩:=read_ok hs (hs.opd hx) hu
  refine ok_plain hs hk (r:=.agg vs.toArray) (by simp [execOp,ho,hr,run_loadAt_agg hg hi h2 h3]) ?_
  simp only [VR]; exact ⟨_,rfl,h1⟩
 ·cases he
theorem op_store {t:TypeId} {k:Nat} {x y:Operand} {x' y':Opd} (ho:o.op=.store t x y) (hz:szOf P t=some k) (hx:opd P x=some x') (hy:opd P y=some y') (hs:SR P ρ lam s a w)
  (he:opEv call (.store k x' y') s=some (v,s')) (hk:After P ρ lam s a w v s' o.dst next):o.wp P a w next Q:=by
 obtain ⟨i,hi,rfl⟩:=szOf_ok hz
 simp only [opEv] at he
 split at he
 ·rename_i vs hvs
  split at he
  ·rename_i hl
   split at he
   ·rename_i s2 hw
    simp only [Option.some.injEq,Prod.mk.injEq] at he
    obtain ⟨rfl,rfl⟩:=he
    have hc:=cells_ok (hs.opd hy) hvs
    obtain ⟨b,off,w',hr,h1,h2,h3⟩:=write_ok hs (hs.opd hx) hc hw
    have hsz:(a.eval y).cells.size=i.size:=by rw [←Array.length_toList,hc.length,hl]
    refine wp_skip' (w':=w') ?_ (hk ρ lam undef w' (by simp [VT,VR]) (fun t o e=>by cases e) h2 ρ.le_refl h3)
    simp [execOp,ho,Instr.storeAt,Instr.sureAddr,hr,storeVar,run_sizeOf hi,hsz,h1]
   ·cases he
  ·cases he
 ·cases he
end
end
end AG
