/- The abstract machine, part 27: a closed function as a prim: what it answers out of the start's blocks alone it answers wherever these blocks lie in front. -/
import Derived.Test.YtkmbepgofajfkaaDoorAgStr
import Derived.Test.YtkmbepgofajfkaaDoorAgLaw
namespace AG
noncomputable section
open Go Go.RowKit
mutual
def okB (k:Nat):AV→Bool
 | .ptr b _=>decide (b < k)
 | .slice b _ _ _ _=>decide (b < k)
 | .map b=>decide (b < k)
 | .loc _ _=>false
 | .fn _ cs=>okBs k cs
 | .iface _ v=>okB k v
 | .agg l=>okBs k l
 | .tup l=>okBs k l
 | _=>true
def okBs (k:Nat):List AV→Bool
 | []=>true
 | v::l=>okB k v&&okBs k l
end
mutual
theorem VR.cut {k:Nat} {ρ:Rho}:∀ (v:AV) (r:Value),okB k v=true→VR ρ v r→VR (ρ.take k) v r
 | .unk,_,_,_=>by simp [VR]
 | .bool _,_,_,hv | .int _ _,_,_,hv | .str _,_,_,hv | .nilp,_,_,hv | .nils,_,_,hv | .es,_,_,hv | .nilm,_,_,hv | .nilf,_,_,hv | .nili,_,_,hv=>by simpa [VR] using hv
 | .loc _ _,_,_,hv=>by simp [VR] at hv
 | .ptr b o,r,h,hv=>by
  simp only [okB,decide_eq_true_eq] at h
  simp only [VR] at hv ⊢
  obtain ⟨x,hx,rfl⟩:=hv
  exact ⟨x,by rw [List.getElem?_take,if_pos h]; exact hx,rfl⟩
 | .slice b o n cap e,r,h,hv=>by
  simp only [okB,decide_eq_true_eq] at h
  simp only [VR] at hv ⊢
  obtain ⟨x,c,hx,rest⟩:=hv
  exact ⟨x,c,by rw [List.getElem?_take,if_pos h]; exact hx,rest⟩
 | .map b,r,h,hv=>by
  simp only [okB,decide_eq_true_eq] at h
  simp only [VR] at hv ⊢
  obtain ⟨x,hx,rfl⟩:=hv
  exact ⟨x,by rw [List.getElem?_take,if_pos h]; exact hx,rfl⟩
 | .fn f cs,r,h,hv=>by
  simp only [okB] at h
  simp only [VR] at hv ⊢
  obtain ⟨rs,rfl,hr⟩:=hv
  exact ⟨rs,rfl,VRs.cut cs _ h hr⟩
 | .iface t v,r,h,hv=>by
  simp only [okB] at h
  simp only [VR] at hv ⊢
  obtain ⟨x,rfl,hr⟩:=hv
  exact ⟨x,rfl,VR.cut v _ h hr⟩
 | .agg l,r,h,hv=>by
  simp only [okB] at h
  simp only [VR] at hv ⊢
  obtain ⟨rs,rfl,hr⟩:=hv
  exact ⟨rs,rfl,VRs.cut l _ h hr⟩
 | .tup l,r,h,hv=>by
  simp only [okB] at h
  simp only [VR] at hv ⊢
  obtain ⟨rs,rfl,hr⟩:=hv
  exact ⟨rs,rfl,VRs.cut l _ h hr⟩
theorem VRs.cut {k:Nat} {ρ:Rho}:∀ (l:List AV) (rs:List Value),okBs k l=true→VRs ρ l rs→VRs (ρ.take k) l rs
 | [],_,_,hv=>by simpa [VRs] using hv
 | v::l,_,h,hv=>by
  simp only [okBs,Bool.and_eq_true] at h
  simp only [VRs] at hv ⊢
  obtain ⟨r,rest,rfl,h1,h2⟩:=hv
  exact ⟨r,rest,rfl,VR.cut v r h.1 h1,VRs.cut l rest h.2 h2⟩
end
def okBlk (k:Nat):ABlk→Bool
 | .cells c own=>okBs k c&&!own
 | .dead=>true
 | _=>false
theorem BR.cut {k:Nat} {ρ:Rho} {x:At} {w:World} {b:ABlk} (h:okBlk k b=true) (hb:BR ρ x w b):BR (ρ.take k) x w b:=by
 cases b with
 | cells c own=>
  simp only [okBlk,Bool.and_eq_true] at h
  obtain ⟨rc,e,fz,h1,h2,h3⟩:=hb
  exact ⟨rc,e,fz,h1,VRs.cut _ _ h.1 h2,h3⟩
 | dead=>trivial
 | _=>simp [okBlk] at h
theorem okBlk_own {k:Nat} {b:ABlk} (h:okBlk k b=true):b.own=false:=by
 cases b with
 | cells c own=>simp only [okBlk,Bool.and_eq_true,Bool.not_eq_true'] at h; exact h.2
 | dead=>rfl
 | _=>simp [okBlk] at h
open Classical in
def closedEv (bs:List ABlk) (v:AV) (_:Caller) (args:List AV) (m:Mem):Option (AV×Mem):=
 if args=[]∧bs.length≤m.n∧∀ (i:Nat) (b:ABlk),bs[i]?=some b→m.get i=some b then some (v,m) else none
theorem closed_ok {P:Program} {A:Nat→Option AFn} (hA:AOk P A) {n f:Nat} {fn:Func} (hf:P.funcs[f]?=some fn) (hn:fn.name≠ "runtime.NumGoroutine") (hb:fn.body.isSome=true) {bs:List ABlk} (h:isTrue (run A n f [] (memOf bs))=true)
  (hle:bs.length≤2 ^ depth) (ho:bs.all (okBlk bs.length)=true) (hg:P.globals.size≤bs.length):PrimOk P f (closedEv bs (.bool true)):=by
 intro call _ args m v m' hp
 refine ⟨⟨fn,hf,hn,hb⟩,fun ρ rargs w hm ha=>?_⟩
 unfold closedEv at hp
 split at hp
 rotate_left
 ·cases hp
 rename_i hc
 obtain ⟨rfl,hl,hc⟩:=hc
 simp only [Option.some.injEq,Prod.mk.injEq] at hp
 obtain ⟨rfl,rfl⟩:=hp
 simp only [VRs] at ha
 have e2:rargs=#[]:=Array.toList_inj.1 ha
 subst e2
 have hown:∀ b∈bs,okBlk bs.length b=true:=List.all_eq_true.1 ho
 have hlen:=hm.len
 have hm2:MR P (ρ.take bs.length) (memOf bs) w:=by
  refine MR.of_list (by rw [List.length_take]; omega) hle (fun g hgl=>?_) (fun i b hib=>?_) (fun b hb'=>okBlk_own (hown b hb'))
  ·obtain ⟨x,hx,h3⟩:=hm.glob g hgl
   exact ⟨x,by rw [List.getElem?_take,if_pos (by omega)]; exact hx,h3⟩
  ·obtain ⟨x,hx,hbr⟩:=hm.blk i b (hc i b hib)
   have hi:=(List.getElem?_eq_some_iff.1 hib).1
   exact ⟨x,by rw [List.getElem?_take,if_pos hi]; exact hx,hbr.cut (hown b (List.mem_of_getElem? hib))⟩
 refine (closed_callsD hA h hm2 hle (by
  rw [List.all_eq_true]
  intro b hb'
  rw [okBlk_own (hown b hb')]
  rfl)).mono ?_
 rintro e w' ⟨rfl,hw,hd⟩
 exact ⟨_,ρ,rfl,by simp only [VR],MStep.newer hm hw hd⟩
end
end AG
