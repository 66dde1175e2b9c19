/- The abstract machine, part 28: slices.Sort and slices.Compact of whole numbers: their contracts make them prims. -/
import Derived.Test.YtkmbepgofajfkaaDoorAgSlc
import Derived.Sort.Grow
namespace AG
noncomputable section
open Go Go.RowKit Go.Sort
theorem intsOf_some:∀ {l:List AV} {zs:List Int},intsOf l=some zs→l=zs.map fun z=>AV.int .i64 z
 | [],zs,h=>by simp only [intsOf,Option.some.injEq] at h; subst h; rfl
 | v::r,zs,h=>by
  cases v <;> try (simp only [intsOf,reduceCtorEq] at h; done)
  rename_i k x
  cases k <;> try (simp only [intsOf,reduceCtorEq] at h; done)
  simp only [intsOf] at h
  simp only [Option.map_eq_some_iff] at h
  obtain ⟨ys,h1,rfl⟩:=h
  rw [intsOf_some h1]; rfl
theorem ahead_step {P:Program} {ρ:Rho} {m:Mem} {w:World} (hm:MR P ρ m w) (n:Nat):MStep P ρ m w ρ m (Go.Sort.ahead w n):=
 ⟨hm.of_heap (fun _ _=>rfl),ρ.le_refl,⟨rfl,rfl,rfl,Nat.le_refl _,fun _ _ _=>rfl,fun _ h=>.inl h,fun _ h=>.inl h,Nat.le_add_right _ _⟩⟩
theorem grow_step {P:Program} {ρ:Rho} {m:Mem} {w:World} (hm:MR P ρ m w) (os:Array Obj):MStep P ρ m w ρ m (Go.Sort.grow w os):=
 MStep.newer hm ⟨rfl,rfl,rfl,by simp [Go.Sort.grow],fun k hk=>by
  unfold Go.Sort.grow
  exact Array.getElem?_append_left hk⟩
theorem own_holds {P:Program} {ρ:Rho} {m:Mem} {w:World} (hm:MR P ρ m w) {b o n:Nat} {c:List AV} {zs:List Int} (h:ownInts m b o n=some (c,zs)) {x:At} (hx:ρ[b]?=some x):
  m.get b=some (.cells c true)∧zs.length=n∧o+n≤c.length∧(c.drop o).take n=(zs.map fun z=>AV.int .i64 z)∧∃ rc e,w.heap[x.blk]?=some (.cells rc e (0,0))∧x.size=rc.size∧x.ty=e∧x.off+c.length≤rc.size∧VRs ρ c ((rc.toList.drop x.off).take c.length)∧Holds (Value.int .i64) w x.blk (x.off+o) zs.toArray:=by
 unfold ownInts at h
 cases hg:m.get b with
 | none=>rw [hg] at h; cases h
 | some q=>
  rw [hg] at h
  cases q with
  | cells c' own=>
   cases own with
   | false=>simp at h
   | true=>
    simp only at h
    cases hc:cellsAt c' o n with
    | none=>rw [hc] at h; cases h
    | some l=>
     rw [hc] at h
     simp only [Option.map_eq_some_iff,Prod.mk.injEq] at h
     obtain ⟨ys,h1,rfl,rfl⟩:=h
     have hl:=intsOf_some h1
     unfold cellsAt at hc
     split at hc
     rotate_left
     ·cases hc
     rename_i hle
     simp only [Option.some.injEq] at hc
     have hlen:ys.length=n:=by
      have:=congrArg List.length hc
      rw [hl,List.length_take,List.length_drop,List.length_map] at this
      omega
     obtain ⟨x',hx',hb⟩:=hm.blk b _ hg
     rw [hx] at hx'
     cases hx'
     obtain ⟨rc,e,fz,g1,g2,g3,g4,_⟩:=hb
     obtain ⟨rfl,g5,g6⟩:=g3 rfl
     refine ⟨rfl,hlen,hle,by rw [hc,hl],rc,e,g1,g5,g6,g4,g2,fun j hj=>?_⟩
     have hj':j < ys.length:=by simpa using hj
     have hcell:rc[x.off+(o+j)]?=some (.int .i64 ys[j]):=by
      have hcj:c'[o+j]?=some (.int .i64 ys[j]):=by
       have:=congrArg (fun z:List AV=>z[j]?) hc
       (try simp only at this)
       rw [List.getElem?_take,if_pos (by omega),List.getElem?_drop] at this
       rw [this,hl,List.getElem?_map,List.getElem?_eq_getElem hj']
       rfl
      obtain ⟨r,hr,hv⟩:=VRs.get g2 hcj
      rw [List.getElem?_take,if_pos (by have:=(List.getElem?_eq_some_iff.1 hcj).1; omega),List.getElem?_drop,Array.getElem?_toList] at hr
      simp only [VR] at hv
      rw [hr,hv]
     constructor
     ·simp only [World.cell?,g1,Option.isSome_none,Bool.false_eq_true,if_false]
      rw [Nat.add_assoc,hcell]
      simp [hj']
     ·simp [World.frozen?,g1]
  | _=>simp at h
theorem own_put {P:Program} {ρ:Rho} {m:Mem} {w:World} (hm:MR P ρ m w) {b o n:Nat} {c:List AV} {zs ys:List Int} (h:ownInts m b o n=some (c,zs)) {x:At} (hx:ρ[b]?=some x) (hl:ys.length=n):
  MStep P ρ m w ρ (m.set b (.cells (splice c o (ys.map fun z=>AV.int .i64 z)) true)) (putRow (Value.int .i64) w x.blk (x.off+o) ys.toArray):=by
 obtain ⟨hg,hzl,hle,hsub,rc,e,g1,g5,g6,g4,g2,_⟩:=own_holds hm h hx
 have hlen:(splice c o (ys.map fun z=>AV.int .i64 z)).length=c.length:=by
  unfold splice
  simp
  omega
 refine MStep.set hm hg rfl hx rfl rfl rfl (by rw [size_putRow]; exact Nat.le_refl _) (fun k hk=>?_) ⟨putCells (Value.int .i64) (x.off+o) ys.toArray rc,e,(0,0),?_,?_,fun _=>⟨rfl,?_,g6⟩,?_,(fun h=>by cases h)⟩
 ·simp only [putRow,mapBlock,Array.getElem?_modify]
  rw [if_neg (fun h=>hk h.symm)]
 ·simp only [putRow,mapBlock,Array.getElem?_modify,g1,if_true]
  rfl
 ·rw [hlen]
  apply VRs.of_get
  ·rw [hlen,List.length_take,List.length_drop,Array.length_toList]
   simp [putCells]
   omega
  ·intro i v r hv hr
   have hi:i < c.length:=by rw [←hlen]; exact (List.getElem?_eq_some_iff.1 hv).1
   rw [List.getElem?_take,if_pos hi,List.getElem?_drop,Array.getElem?_toList] at hr
   simp only [putCells,Array.getElem?_mapIdx] at hr
   have hrc:∃ q,rc[x.off+i]?=some q:=⟨_,Array.getElem?_eq_getElem (by omega)⟩
   obtain ⟨q,hq⟩:=hrc
   rw [hq] at hr
   simp only [Option.map_some,Option.some.injEq] at hr
   unfold splice at hv
   rw [List.length_map] at hv
   by_cases h1:i < o
   ·rw [List.append_assoc,List.getElem?_append_left (by rw [List.length_take]; omega),List.getElem?_take,if_pos h1] at hv
    rw [if_neg (by omega)] at hr
    subst hr
    obtain ⟨r',hr',hvr⟩:=VRs.get g2 hv
    rw [List.getElem?_take,if_pos hi,List.getElem?_drop,Array.getElem?_toList,hq] at hr'
    cases hr'
    exact hvr
   ·by_cases h2:i < o+n
    ·rw [List.append_assoc,List.getElem?_append_right (by rw [List.length_take]; omega),List.length_take,List.getElem?_append_left (by rw [List.length_map]; omega),List.getElem?_map] at hv
     rw [show i - min o c.length=i - o by omega] at hv
     rw [if_pos (by simp; omega)] at hr
     have hj:i - o < ys.length:=by omega
     rw [List.getElem?_eq_getElem hj] at hv
     simp only [Option.map_some,Option.some.injEq] at hv
     subst hv; subst hr
     simp only [VR]
     congr 1
     rw [show x.off+i - (x.off+o)=i - o by omega]
     simp [hj]
    ·rw [List.append_assoc,List.getElem?_append_right (by rw [List.length_take]; omega),List.length_take,List.getElem?_append_right (by rw [List.length_map]; omega),List.length_map,List.getElem?_drop] at hv
     rw [if_neg (by simp; omega)] at hr
     subst hr
     rw [show o+ys.length+(i - min o c.length - ys.length)=i by omega] at hv
     obtain ⟨r',hr',hvr⟩:=VRs.get g2 hv
     rw [List.getElem?_take,if_pos hi,List.getElem?_drop,Array.getElem?_toList,hq] at hr'
     cases hr'
     exact hvr
 ·simp [putCells,g5]
 ·rw [hlen]; simp [putCells]; omega
theorem sort_ok {P:Program} {f:Nat} {fn:Func} (hf:P.funcs[f]?=some fn) (hn:fn.name≠ "runtime.NumGoroutine") (hb:fn.body.isSome=true)
  (hc:∀ (blk off cap:Nat) (zs:List Int) (w:World),Holds (Value.int .i64) w blk off zs.toArray→blk < w.heap.size→zs.length < 4611686018427387904→Calls P f #[.slice (some ⟨blk,off,none⟩) zs.length cap] w fun e w'=>e=.returned (.tuple #[])∧∃ n os,w'=grow (putRow (Value.int .i64) (Go.Sort.ahead w n) blk off (zs.mergeSort fun x y=>decide (x≤y)).toArray) os)
  (h0:∀ (p:Option Addr) (cap:Nat) (w:World),Calls P f #[.slice p 0 cap] w fun e w'=>e=.returned (.tuple #[])∧w'=w):PrimOk P f sortEv:=by
 intro call _ args m v m' h
 refine ⟨⟨fn,hf,hn,hb⟩,fun ρ rargs w hm ha=>?_⟩
 unfold sortEv at h
 split at h
 ·simp only [Option.some.injEq,Prod.mk.injEq] at h
  obtain ⟨rfl,rfl⟩:=h
  simp only [VRs,VR] at ha
  obtain ⟨r,rest,e1,rfl,rfl⟩:=ha
  have e2:rargs=#[.slice none 0 0]:=Array.toList_inj.1 e1
  subst e2
  refine (h0 none 0 w).mono ?_
  rintro e w' ⟨rfl,rfl⟩
  exact ⟨_,ρ,rfl,by simp only [VR]; exact ⟨_,rfl,by simp [VRs]⟩,MStep.refl hm⟩
 ·rename_i b o n cap e
  simp only [VRs,VR] at ha
  obtain ⟨r,rest,e1,⟨x,C,hx,rfl,hnc,hcm,_⟩,rfl⟩:=ha
  have e2:rargs=#[.slice (some ⟨x.blk,x.off+o,none⟩) n C]:=Array.toList_inj.1 e1
  subst e2
  split at h
  ·rename_i hz
   simp only [Option.some.injEq,Prod.mk.injEq] at h
   obtain ⟨rfl,rfl⟩:=h
   subst hz
   refine (h0 _ C w).mono ?_
   rintro e w' ⟨rfl,rfl⟩
   exact ⟨_,ρ,rfl,by simp only [VR]; exact ⟨_,rfl,by simp [VRs]⟩,MStep.refl hm⟩
  ·split at h
   ·cases h
   rename_i hn0 hbig
   split at h
   rotate_left
   ·cases h
   rename_i c zs hown
   simp only [Option.some.injEq,Prod.mk.injEq] at h
   obtain ⟨rfl,rfl⟩:=h
   obtain ⟨hg,hzl,hle,hsub,rc,e',g1,g5,g6,g4,g2,hH⟩:=own_holds hm hown hx
   have hlt:x.blk < w.heap.size:=(Array.getElem?_eq_some_iff.1 g1).1
   have hcc:=hc x.blk (x.off+o) C zs w hH hlt (by omega)
   rw [hzl] at hcc
   refine hcc.mono ?_
   rintro e w' ⟨rfl,k,os,rfl⟩
   have s1:=ahead_step hm k
   have s2:=own_put s1.mr hown hx (ys:=zs.mergeSort fun x y=>decide (x≤y)) (by rw [List.length_mergeSort]; exact hzl)
   exact ⟨_,ρ,rfl,by simp only [VR]; exact ⟨_,rfl,by simp [VRs]⟩,s1.trans (s2.trans (grow_step s2.mr os))⟩
 ·cases h
theorem compact_ok {P:Program} {f:Nat} {fn:Func} (hf:P.funcs[f]?=some fn) (hn:fn.name≠ "runtime.NumGoroutine") (hb:fn.body.isSome=true)
  (hc:∀ (blk off cap:Nat) (zs:List Int) (w:World),Holds (Value.int .i64) w blk off zs.toArray→zs.length≤9223372036854775807→zs.length≤cap→Calls P f #[.slice (some ⟨blk,off,none⟩) zs.length cap] w fun e w'=>e=.returned (.slice (some ⟨blk,off,none⟩) (Lib.compact zs).length cap)∧∃ q,w'=putRow (Value.int .i64) (Go.Sort.ahead w q) blk off (Lib.compact zs++List.replicate (zs.length - (Lib.compact zs).length) 0).toArray)
  (h0:∀ (p:Option Addr) (cap:Nat) (w:World),Calls P f #[.slice p 0 cap] w fun e w'=>e=.returned (.slice p 0 cap)∧w'=w):PrimOk P f compactEv:=by
 intro call _ args m v m' h
 refine ⟨⟨fn,hf,hn,hb⟩,fun ρ rargs w hm ha=>?_⟩
 unfold compactEv at h
 split at h
 ·simp only [Option.some.injEq,Prod.mk.injEq] at h
  obtain ⟨rfl,rfl⟩:=h
  simp only [VRs,VR] at ha
  obtain ⟨r,rest,e1,rfl,rfl⟩:=ha
  have e2:rargs=#[.slice none 0 0]:=Array.toList_inj.1 e1
  subst e2
  refine (h0 none 0 w).mono ?_
  rintro e w' ⟨rfl,rfl⟩
  exact ⟨_,ρ,rfl,by simp only [VR],MStep.refl hm⟩
 ·rename_i b o n cap e
  have ha0:=ha
  simp only [VRs,VR] at ha
  obtain ⟨r,rest,e1,⟨x,C,hx,rfl,hnc,hcm,hcap⟩,rfl⟩:=ha
  have e2:rargs=#[.slice (some ⟨x.blk,x.off+o,none⟩) n C]:=Array.toList_inj.1 e1
  subst e2
  split at h
  ·rename_i hz
   simp only [Option.some.injEq,Prod.mk.injEq] at h
   obtain ⟨rfl,rfl⟩:=h
   subst hz
   refine (h0 _ C w).mono ?_
   rintro e w' ⟨rfl,rfl⟩
   exact ⟨_,ρ,rfl,by simp only [VR]; exact ⟨x,C,hx,rfl,hnc,hcm,hcap⟩,MStep.refl hm⟩
  ·split at h
   rotate_left
   ·cases h
   rename_i c zs hown
   simp only [Option.some.injEq,Prod.mk.injEq] at h
   obtain ⟨rfl,rfl⟩:=h
   obtain ⟨hg,hzl,hle,hsub,rc,e',g1,g5,g6,g4,g2,hH⟩:=own_holds hm hown hx
   have hcl:=Lib.compact_length_le zs
   have hcc:=hc x.blk (x.off+o) C zs w hH (by rw [hzl]; unfold maxLen at hcm; omega) (by omega)
   rw [hzl] at hcc
   refine hcc.mono ?_
   rintro e w' ⟨rfl,q,rfl⟩
   have s1:=ahead_step hm q
   have s2:=own_put s1.mr hown hx (ys:=Lib.compact zs++List.replicate (zs.length - (Lib.compact zs).length) 0) (by rw [List.length_append,List.length_replicate]; omega)
   rw [hzl] at s2
   exact ⟨_,ρ,rfl,by simp only [VR]; exact ⟨x,C,hx,rfl,by omega,hcm,hcap⟩,s1.trans (by rw [hzl]; exact s2)⟩
 ·cases h
end
end AG
