/- The abstract machine, part 9: addresses, parts, slices. -/
import Derived.Test.YtkmbepgofajfkaaDoorAgOps4
namespace AG
noncomputable section
open Go Go.RowKit
section
variable {P:Program} {o:Oper} {a:Act} {w w':World} {next:Act→World→Prop} {Q:Exit→Act→World→Prop}
variable {ρ ρ':Rho} {lam:Nat→Nat} {s s':St} {v:AV} {r:Value} {call:Caller}
theorem op_faddr {t:TypeId} {f:Nat} {fs:Array Field} {fd:Field} {k:Nat} {x:Operand} {x':Opd} (ho:o.op=.fieldAddr t x f) (ht:P.underlying t=some (.struct fs)) (hf:fs[f]?=some fd)
  (hz:szOf P fd.type=some k) (hk0:k≠0) (hx:opd P x=some x') (hs:SR P ρ lam s a w)
  (he:opEv call (.faddr fd.offset x') s=some (v,s')) (hk:After P ρ lam s a w v s' o.dst next):o.wp P a w next Q:=by
 obtain ⟨i,hi,rfl⟩:=szOf_ok hz
 simp only [opEv] at he
 have h:=hs.opd hx
 have run:∀ b off,a.eval x=.pointer (some ⟨b,off,none⟩)→(execOp a.eval o).run P w=.ok (.value (.pointer (some ⟨b,off+fd.offset,none⟩))) w:=by
  intro b off hr
  simp [execOp,ho,Instr.fieldAt,run_underlying ht,hf,Instr.sureAddr,hr,fieldPlace,run_sizeOf hi,hk0,Addr.add_lit]
 split at he
 ·rename_i b off hx'
  simp only [Option.some.injEq,Prod.mk.injEq] at he
  obtain ⟨rfl,rfl⟩:=he
  rw [hx'] at h; simp only [VT,VR] at h
  obtain ⟨y,hy,h⟩:=h
  exact ok_plain hs hk (run _ _ h) (by simp only [VR]; exact ⟨y,hy,by rw [Nat.add_assoc]⟩)
 ·rename_i u off hx'
  simp only [Option.some.injEq,Prod.mk.injEq] at he
  obtain ⟨rfl,rfl⟩:=he
  rw [hx'] at h; simp only [VT] at h
  exact ok_pure hs hk (run _ _ h) (by simp only [VT]) (fun t o e=>by cases e; exact hs.opd_live hx _ _ hx')
 ·cases he
theorem op_fld1 {t:TypeId} {f:Nat} {fs:Array Field} {fd:Field} {x:Operand} {x':Opd} (ho:o.op=.field t x f) (ht:P.underlying t=some (.struct fs)) (hf:fs[f]?=some fd)
  (hg:aggq P fd.type=some false) (hx:opd P x=some x') (hs:SR P ρ lam s a w)
  (he:opEv call (.fld fd.offset none x') s=some (v,s')) (hk:After P ρ lam s a w v s' o.dst next):o.wp P a w next Q:=by
 simp only [opEv] at he
 split at he
 ·rename_i l hx'
  simp only [Option.map_eq_some_iff,Prod.mk.injEq] at he
  obtain ⟨u,hu,rfl,rfl⟩:=he
  have h:=hs.opd hx
  rw [hx'] at h; simp only [VT,VR] at h
  obtain ⟨rs,hr,hrs⟩:=h
  obtain ⟨r,h1,h2⟩:=hrs.get hu
  exact ok_plain hs hk (r:=r) (by simp [execOp,ho,hr,Instr.field,run_underlying ht,hf,asAgg,run_part hg (by simpa using h1)]) h2
 ·cases he
theorem run_part_agg {t:TypeId} {i:TypeInfo} {cs:Array Value} {off:Nat} (hg:aggq P t=some true) (hi:P.info? t=some i) (w:World):(part t cs off).run P w=.ok (.agg (cs.extract off (off+i.size))) w:=by
 simp [part,run_isAgg hg,run_sizeOf hi]
theorem op_fldk {t:TypeId} {f:Nat} {fs:Array Field} {fd:Field} {k:Nat} {x:Operand} {x':Opd} (ho:o.op=.field t x f) (ht:P.underlying t=some (.struct fs)) (hf:fs[f]?=some fd)
  (hg:aggq P fd.type=some true) (hz:szOf P fd.type=some k) (hx:opd P x=some x') (hs:SR P ρ lam s a w)
  (he:opEv call (.fld fd.offset (some k) x') s=some (v,s')) (hk:After P ρ lam s a w v s' o.dst next):o.wp P a w next Q:=by
 obtain ⟨i,hi,rfl⟩:=szOf_ok hz
 simp only [opEv] at he
 split at he
 ·rename_i l hx'
  split at he
  ·simp only [Option.some.injEq,Prod.mk.injEq] at he
   obtain ⟨rfl,rfl⟩:=he
   have h:=hs.opd hx
   rw [hx'] at h; simp only [VT,VR] at h
   obtain ⟨rs,hr,hrs⟩:=h
   refine ok_plain hs hk (r:=.agg (rs.extract fd.offset (fd.offset+i.size))) (by simp [execOp,ho,hr,Instr.field,run_underlying ht,hf,asAgg,run_part_agg hg hi]) ?_
   simp only [VR]
   refine ⟨_,rfl,?_⟩
   have:=(hrs.drop fd.offset).take i.size
   simpa [Array.toList_extract,List.extract_eq_take_drop] using this
  ·cases he
 ·cases he
theorem op_iaddrL {t e:TypeId} {sz:Nat} {x i:Operand} {x' i':Opd} (ho:o.op=.indexAddr t x i) (ht:P.underlying t=some (.slice e)) (hz:szOf P e=some sz) (hx:opd P x=some x') (hi:opd P i=some i') (hs:SR P ρ lam s a w)
  (he:opEv call (.iaddrL sz x' i') s=some (v,s')) (hk:After P ρ lam s a w v s' o.dst next):o.wp P a w next Q:=by
 obtain ⟨ti,hti,rfl⟩:=szOf_ok hz
 simp only [opEv] at he
 split at he
 ·rename_i b off n c e' k j hx' hi'
  split at he
  ·rename_i hb
   simp only [Option.some.injEq,Prod.mk.injEq] at he
   obtain ⟨rfl,rfl⟩:=he
   have h1:=hs.opd hx
   have h2:=hs.opd hi
   rw [hx'] at h1; rw [hi'] at h2
   simp only [VT,VR] at h1 h2
   obtain ⟨y,rc,hy,h1,_⟩:=h1
   refine ok_plain hs hk (r:=.pointer (some ⟨y.blk,y.off+off+j.toNat*ti.size,none⟩)) ?_ (by simp only [VR]; exact ⟨y,hy,by rw [Nat.add_assoc]⟩)
   simp [execOp,ho,h1,h2,Instr.indexAt,asIntOf,run_underlying ht,hb,run_sizeOf hti,Addr.add_lit]
  ·cases he
 ·cases he
theorem op_iaddrA {t e:TypeId} {n sz:Nat} {x i:Operand} {x' i':Opd} (ho:o.op=.indexAddr t x i) (ht:P.underlying t=some (.array n e)) (hz:szOf P e=some sz) (hx:opd P x=some x') (hi:opd P i=some i') (hs:SR P ρ lam s a w)
  (he:opEv call (.iaddrA n sz x' i') s=some (v,s')) (hk:After P ρ lam s a w v s' o.dst next):o.wp P a w next Q:=by
 obtain ⟨ti,hti,rfl⟩:=szOf_ok hz
 simp only [opEv] at he
 have h1:=hs.opd hx
 have h2:=hs.opd hi
 have run:∀ b off k j,a.eval x=.pointer (some ⟨b,off,none⟩)→a.eval i=.int k j→0≤j∧j < n→
   (execOp a.eval o).run P w=.ok (.value (.pointer (some ⟨b,off+j.toNat*ti.size,none⟩))) w:=by
  intro b off k j e1 e2 hb
  simp [execOp,ho,e1,e2,Instr.indexAt,asIntOf,run_underlying ht,Instr.sureAddr,hb,run_sizeOf hti,Addr.add_lit]
 split at he
 ·rename_i b off k j hx' hi'
  split at he
  ·rename_i hb
   simp only [Option.some.injEq,Prod.mk.injEq] at he
   obtain ⟨rfl,rfl⟩:=he
   rw [hx'] at h1; rw [hi'] at h2
   simp only [VT,VR] at h1 h2
   obtain ⟨y,hy,h1⟩:=h1
   exact ok_plain hs hk (run _ _ _ _ h1 h2 hb) (by simp only [VR]; exact ⟨y,hy,by rw [Nat.add_assoc]⟩)
  ·cases he
 ·rename_i u off k j hx' hi'
  split at he
  ·rename_i hb
   simp only [Option.some.injEq,Prod.mk.injEq] at he
   obtain ⟨rfl,rfl⟩:=he
   rw [hx'] at h1; rw [hi'] at h2
   simp only [VT,VR] at h1 h2
   exact ok_pure hs hk (run _ _ _ _ h1 h2 hb) (by simp only [VT]) (fun t o e=>by cases e; exact hs.opd_live hx _ _ hx')
  ·cases he
 ·cases he
theorem op_idxS {t:TypeId} {x i:Operand} {x' i':Opd} (ho:o.op=.index t x i) (ht:P.underlying t=some .string) (hx:opd P x=some x') (hi:opd P i=some i') (hs:SR P ρ lam s a w)
  (he:opEv call (.idxS x' i') s=some (v,s')) (hk:After P ρ lam s a w v s' o.dst next):o.wp P a w next Q:=by
 simp only [opEv] at he
 split at he
 ·rename_i b k j hx' hi'
  split at he
  ·rename_i hb
   split at he
   ·rename_i c hc
    simp only [Option.some.injEq,Prod.mk.injEq] at he
    obtain ⟨rfl,rfl⟩:=he
    have h1:=hs.opd hx
    have h2:=hs.opd hi
    rw [hx'] at h1; rw [hi'] at h2
    simp only [VT,VR] at h1 h2
    exact ok_plain hs hk (r:=.int .u8 c.toNat) (by simp [execOp,ho,h1,h2,Instr.index,asIntOf,run_underlying ht,hb,hc]) (by simp [VR])
   ·cases he
  ·cases he
 ·cases he
theorem op_idxA {t e:TypeId} {n sz:Nat} {g:Bool} {x i:Operand} {x' i':Opd} (ho:o.op=.index t x i) (ht:P.underlying t=some (.array n e)) (hg:aggq P e=some g) (hz:szOf P e=some sz) (hx:opd P x=some x') (hi:opd P i=some i') (hs:SR P ρ lam s a w)
  (he:opEv call (.idxA n sz g x' i') s=some (v,s')) (hk:After P ρ lam s a w v s' o.dst next):o.wp P a w next Q:=by
 obtain ⟨ti,hti,rfl⟩:=szOf_ok hz
 simp only [opEv] at he
 split at he
 ·rename_i l k j hx' hi'
  split at he
  ·rename_i hb
   have h1:=hs.opd hx
   have h2:=hs.opd hi
   rw [hx'] at h1; rw [hi'] at h2
   simp only [VT,VR] at h1 h2
   obtain ⟨rs,hr,hrs⟩:=h1
   cases g
   ·simp only [Bool.false_eq_true,if_false,Option.map_eq_some_iff,Prod.mk.injEq] at he
    obtain ⟨u,hu,rfl,rfl⟩:=he
    obtain ⟨r,q1,q2⟩:=hrs.get hu
    exact ok_plain hs hk (r:=r) (by simp [execOp,ho,hr,h2,Instr.index,asIntOf,run_underlying ht,hb,run_sizeOf hti,run_part hg (by simpa using q1)]) q2
   ·simp only [if_true] at he
    split at he
    ·simp only [Option.some.injEq,Prod.mk.injEq] at he
     obtain ⟨rfl,rfl⟩:=he
     refine ok_plain hs hk (r:=.agg (rs.extract (j.toNat*ti.size) (j.toNat*ti.size+ti.size))) (by simp [execOp,ho,hr,h2,Instr.index,asIntOf,run_underlying ht,hb,run_sizeOf hti,run_part_agg hg hti]) ?_
     simp only [VR]
     refine ⟨_,rfl,?_⟩
     have:=(hrs.drop (j.toNat*ti.size)).take ti.size
     simpa [Array.toList_extract,List.extract_eq_take_drop] using this
    ·cases he
  ·cases he
 ·cases he
def OVT (lam:Nat→Nat) (ρ:Rho):Option AV→Option Value→Prop
 | none,none=>True
 | some v,some r=>VT lam ρ v r
 | _,_=>False
theorem bnd_ok {top C:Nat} {v:AV} {r:Value} {n:Nat} {c:BoundsCode} (hv:VT lam ρ v r) (he:bndEv top v=some n) (hC:top≤C) (w:World):(Instr.sliceBound r C c).run P w=.ok n w∧n≤top:=by
 unfold bndEv at he
 split at he
 ·rename_i k i
  split at he
  ·rename_i hb
   cases he
   simp only [VT,VR] at hv; subst hv
   exact ⟨by simp [Instr.sliceBound,asIntOf,hb.1,(show i≤C by omega)],by omega⟩
  ·cases he
 ·cases he
theorem bnds_ok {isS:Bool} {len cap C l h m:Nat} {lo hi mx:Option AV} {rlo rhi rmx:Option Value} (he:bndsEv len cap lo hi mx=some (l,h,m)) (h1:OVT lam ρ lo rlo) (h2:OVT lam ρ hi rhi) (h3:OVT lam ρ mx rmx)
  (hC:cap≤C) (hl:len≤cap) (w:World):
  (Instr.sliceBounds isS len C rlo rhi rmx).run P w=.ok (l,h,if mx.isSome then m else C) w∧l≤h∧h≤m∧m≤cap∧(mx=none→m=cap):=by
 unfold bndsEv at he
 cases mx with
 | none=>
  cases rmx with
  | some _=>exact h3.elim
  | none=>
   simp only [obnd] at he
   split at he
   ·rename_i hh hhe
    split at he
    ·rename_i ll hle
     simp only [Option.some.injEq,Prod.mk.injEq] at he
     obtain ⟨rfl,rfl,rfl⟩:=he
     cases hi with
     | none=>
      cases rhi with
      | some _=>exact h2.elim
      | none=>
       simp only [Option.some.injEq] at hhe
       subst hhe
       cases lo with
       | none=>
        cases rlo with
        | some _=>exact h1.elim
        | none=>simp only [Option.some.injEq] at hle; subst hle; exact ⟨by simp [Instr.sliceBounds],by omega,by omega,by omega,fun _=>rfl⟩
       | some vl=>
        cases rlo with
        | none=>exact h1.elim
        | some rl=>
         have q:=fun c=>bnd_ok (P:=P) (c:=c) h1 hle (Nat.le_refl _) w
         exact ⟨by simp [Instr.sliceBounds,(q _).1],(q .index).2,by omega,by omega,fun _=>rfl⟩
     | some vh=>
      cases rhi with
      | none=>exact h2.elim
      | some rh=>
       have qh:=fun c=>bnd_ok (P:=P) (c:=c) h2 hhe hC w
       cases lo with
       | none=>
        cases rlo with
        | some _=>exact h1.elim
        | none=>simp only [Option.some.injEq] at hle; subst hle; exact ⟨by simp [Instr.sliceBounds,(qh _).1],by omega,(qh .index).2,by omega,fun _=>rfl⟩
       | some vl=>
        cases rlo with
        | none=>exact h1.elim
        | some rl=>
         have q:=fun c=>bnd_ok (P:=P) (c:=c) h1 hle (Nat.le_refl _) w
         exact ⟨by simp [Instr.sliceBounds,(qh _).1,(q _).1],(q .index).2,(qh .index).2,by omega,fun _=>rfl⟩
    ·cases he
   ·cases he
 | some vm=>
  cases rmx with
  | none=>exact h3.elim
  | some rm=>
   simp only [obnd] at he
   split at he
   ·rename_i mm hme
    have qm:=fun c=>bnd_ok (P:=P) (c:=c) h3 hme hC w
    cases hi with
    | none=>simp at he
    | some vh=>
     cases rhi with
     | none=>exact h2.elim
     | some rh=>
      simp only at he
      split at he
      ·rename_i hh hhe
       have qh:=fun c=>bnd_ok (P:=P) (c:=c) h2 hhe (Nat.le_refl _) w
       split at he
       ·rename_i ll hle
        simp only [Option.some.injEq,Prod.mk.injEq] at he
        obtain ⟨rfl,rfl,rfl⟩:=he
        cases lo with
        | none=>
         cases rlo with
         | some _=>exact h1.elim
         | none=>simp only [Option.some.injEq] at hle; subst hle; exact ⟨by simp [Instr.sliceBounds,(qm _).1,(qh _).1],by omega,(qh .index).2,(qm .index).2,fun h=>by cases h⟩
        | some vl=>
         cases rlo with
         | none=>exact h1.elim
         | some rl=>
          have q:=fun c=>bnd_ok (P:=P) (c:=c) h1 hle (Nat.le_refl _) w
          exact ⟨by simp [Instr.sliceBounds,(qm _).1,(qh _).1,(q _).1],(q .index).2,(qh .index).2,(qm .index).2,fun h=>by cases h⟩
       ·cases he
      ·cases he
   ·cases he
theorem oopd_ok (hs:SR P ρ lam s a w) {x:Option Operand} {y:Option Opd} (h:oopd P x=some y):OVT lam ρ (y.map s.opd) (x.map a.eval):=by
 cases x with
 | none=>simp only [oopd,Option.some.injEq] at h; subst h; trivial
 | some x=>
  simp only [oopd,Option.map_eq_some_iff] at h
  obtain ⟨y',hy,rfl⟩:=h
  exact hs.opd hy
theorem op_slcS {t:TypeId} {x:Operand} {lo hi:Option Operand} {x':Opd} {lo' hi':Option Opd} (ho:o.op=.slice t x lo hi none) (ht:P.underlying t=some .string) (hx:opd P x=some x') (hlo:oopd P lo=some lo') (hhi:oopd P hi=some hi') (hs:SR P ρ lam s a w)
  (he:opEv call (.slcS x' lo' hi') s=some (v,s')) (hk:After P ρ lam s a w v s' o.dst next):o.wp P a w next Q:=by
 simp only [opEv] at he
 split at he
 ·rename_i b hx'
  split at he
  ·rename_i l h m hb
   simp only [Option.some.injEq,Prod.mk.injEq] at he
   obtain ⟨rfl,rfl⟩:=he
   have h1:=hs.opd hx
   rw [hx'] at h1; simp only [VT,VR] at h1
   have hbn:=(bnds_ok (P:=P) (isS:=false) hb (oopd_ok hs hlo) (oopd_ok hs hhi) (rmx:=none) trivial (Nat.le_refl _) (Nat.le_refl _) w).1
   refine ok_plain hs hk (r:=.string (b.extract l h)) ?_ (by simp [VR])
   simp [execOp,ho,h1,Instr.sliceAt,run_underlying ht,Instr.slice,hbn]
  ·cases he
 ·cases he
theorem op_slcL {t e:TypeId} {sz:Nat} {x:Operand} {lo hi mx:Option Operand} {x':Opd} {lo' hi' mx':Option Opd} (ho:o.op=.slice t x lo hi mx) (ht:P.underlying t=some (.slice e)) (hz:szOf P e=some sz) (hx:opd P x=some x')
  (hlo:oopd P lo=some lo') (hhi:oopd P hi=some hi') (hmx:oopd P mx=some mx') (hs:SR P ρ lam s a w)
  (he:opEv call (.slcL sz x' lo' hi' mx') s=some (v,s')) (hk:After P ρ lam s a w v s' o.dst next):o.wp P a w next Q:=by
 obtain ⟨ti,hti,rfl⟩:=szOf_ok hz
 simp only [opEv] at he
 have h1:=hs.opd hx
 have o1:=oopd_ok hs hlo
 have o2:=oopd_ok hs hhi
 have o3:=oopd_ok hs hmx
 have run:∀ A len C l h m,a.eval x=.slice A len C→(Instr.sliceBounds true len C (lo.map a.eval) (hi.map a.eval) (mx.map a.eval)).run P w=.ok (l,h,m) w→
   (execOp a.eval o).run P w=.ok (.value (.slice (if m=l then A else A.map (·.add (l*ti.size))) (h - l) (m - l))) w:=by
  intro A len C l h m e1 e2
  simp [execOp,ho,e1,Instr.sliceAt,run_underlying ht,Instr.slice,e2,run_sizeOf hti]
 split at he
 ·rename_i hx'
  split at he
  ·rename_i q hb
   obtain ⟨l,h,m⟩:=q
   simp only [Option.some.injEq,Prod.mk.injEq] at he
   obtain ⟨rfl,rfl⟩:=he
   rw [hx'] at h1; simp only [VT,VR] at h1
   obtain ⟨b1,b2,b3,b4,_⟩:=bnds_ok (P:=P) (isS:=true) hb o1 o2 o3 (Nat.le_refl _) (Nat.le_refl _) w
   have hr:=run _ _ _ _ _ _ h1 b1
   have e1:l=0:=by omega
   have e2:h=0:=by omega
   have e3:m=0:=by omega
   subst e1; subst e2; subst e3
   refine ok_plain hs hk hr ?_
   have hm:(if mx'.map s.opd |>.isSome then (0:Nat) else 0)=0:=by split <;> rfl
   rw [hm]
   simp [VR]
  ·cases he
 ·rename_i b off n c e' hx'
  split at he
  ·rename_i l h m hb
   simp only [Option.some.injEq,Prod.mk.injEq] at he
   obtain ⟨rfl,rfl⟩:=he
   rw [hx'] at h1; simp only [VT,VR] at h1
   obtain ⟨y,C,hy,hr,hn,hC,rfl⟩:=h1
   obtain ⟨b1,b2,b3,b4,b5⟩:=bnds_ok (P:=P) (isS:=true) hb o1 o2 o3 (Nat.le_refl _) hn w
   have hm:(if (mx'.map s.opd).isSome then m else C)=m:=by
    split
    ·rfl
    ·rename_i hno
     exact (b5 (by simpa using hno)).symm
   rw [hm] at b1
   refine ok_plain hs hk (run _ _ _ _ _ _ hr b1) ?_
   simp only [VR]
   refine ⟨y,m - l,hy,?_,by omega,by omega,rfl⟩
   by_cases hml:m=l
   ·simp [hml]
   ·simp [hml,Addr.add_lit,Nat.add_assoc]
  ·cases he
 ·rename_i b off n e' hx'
  rw [hx'] at h1; simp only [VT,VR] at h1
  obtain ⟨y,C,hy,hr,hn,hC,hcap⟩:=h1
  split at he
  ·rename_i hmx0
   split at he
   ·rename_i l h m hb
    split at he
    ·rename_i hc
     simp only [Option.some.injEq,Prod.mk.injEq] at he
     obtain ⟨rfl,rfl⟩:=he
     obtain ⟨b1,b2,b3,b4,b5⟩:=bnds_ok (P:=P) (isS:=true) (C:=C) (rmx:=mx.map a.eval) hb o1 o2 (by cases mx with | none=>trivial | some q=>simp [oopd] at hmx) hn (Nat.le_refl _) w
     simp only [Option.isSome_none,Bool.false_eq_true,if_false] at b1
     refine ok_plain hs hk (run _ _ _ _ _ _ hr b1) ?_
     simp only [VR]
     refine ⟨y,C - l,hy,?_,by omega,by omega,?_⟩
     ·rw [if_neg (by omega)]; simp [Addr.add_lit,Nat.add_assoc]
     ·rcases hcap with hcap | hcap
      ·left
       rw [←hcap]
       obtain ⟨h1,h2,h3⟩:=hc
       subst h2
       have:l*ti.size+(C - l)*ti.size=C*ti.size:=by rw [←Nat.add_mul]; congr 1; omega
       omega
      ·exact .inr hcap
    ·cases he
   ·cases he
  ·rename_i mxx
   split at he
   ·rename_i l h m hb
    simp only [Option.some.injEq,Prod.mk.injEq] at he
    obtain ⟨rfl,rfl⟩:=he
    obtain ⟨b1,b2,b3,b4,b5⟩:=bnds_ok (P:=P) (isS:=true) (C:=C) hb o1 o2 o3 hn (Nat.le_refl _) w
    simp only [Option.isSome_some,if_true] at b1
    refine ok_plain hs hk (run _ _ _ _ _ _ hr b1) ?_
    simp only [VR]
    refine ⟨y,m - l,hy,?_,by omega,by omega,rfl⟩
    by_cases hml:m=l
    ·simp [hml]
    ·simp [hml,Addr.add_lit,Nat.add_assoc]
   ·cases he
 ·cases he
theorem op_slcA {t e:TypeId} {n sz:Nat} {x:Operand} {lo hi mx:Option Operand} {x':Opd} {lo' hi' mx':Option Opd} (ho:o.op=.slice t x lo hi mx) (ht:P.underlying t=some (.array n e)) (hz:szOf P e=some sz) (hx:opd P x=some x')
  (hlo:oopd P lo=some lo') (hhi:oopd P hi=some hi') (hmx:oopd P mx=some mx') (hs:SR P ρ lam s a w)
  (he:opEv call (.slcA n sz x' lo' hi' mx') s=some (v,s')) (hk:After P ρ lam s a w v s' o.dst next):o.wp P a w next Q:=by
 obtain ⟨ti,hti,rfl⟩:=szOf_ok hz
 simp only [opEv] at he
 split at he
 ·rename_i b off hx'
  split at he
  ·rename_i l h m hb
   split at he
   ·rename_i hn
    simp only [Option.some.injEq,Prod.mk.injEq] at he
    obtain ⟨rfl,rfl⟩:=he
    have h1:=hs.opd hx
    rw [hx'] at h1; simp only [VT,VR] at h1
    obtain ⟨y,hy,hr⟩:=h1
    obtain ⟨b1,b2,b3,b4,b5⟩:=bnds_ok (P:=P) (isS:=false) hb (oopd_ok hs hlo) (oopd_ok hs hhi) (oopd_ok hs hmx) (Nat.le_refl _) (Nat.le_refl _) w
    have hm:(if (mx'.map s.opd).isSome then m else n)=m:=by
     split
     ·rfl
     ·rename_i hno
      exact (b5 (by simpa using hno)).symm
    rw [hm] at b1
    refine ok_plain hs hk (r:=.slice (some (if m=l then ⟨y.blk,y.off+off,none⟩ else (⟨y.blk,y.off+off,none⟩:Addr).add (l*ti.size))) (h - l) (m - l)) ?_ ?_
    ·simp [execOp,ho,hr,Instr.sliceAt,run_underlying ht,Instr.sureAddr,b1,run_sizeOf hti]
    ·simp only [VR]
     refine ⟨y,m - l,hy,?_,by omega,by omega,rfl⟩
     by_cases hml:m=l
     ·simp [hml]
     ·simp [hml,Addr.add_lit,Nat.add_assoc]
   ·cases he
  ·cases he
 ·cases he
end
end
end AG
