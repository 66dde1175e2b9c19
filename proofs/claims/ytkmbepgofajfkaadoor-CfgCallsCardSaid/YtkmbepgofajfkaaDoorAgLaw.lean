/- The abstract machine, part 17: a law that answers true and turns nothing. -/
import Derived.Test.YtkmbepgofajfkaaDoorAgStart
import Derived.ProofKit
import Derived.Carry
namespace AG
noncomputable section
open Go Go.RowKit Go.ChangeShapes Go.WideShapes
theorem MStep.below {P:Program} {ρ ρ':Rho} {m m':Mem} {w w':World} (h:MStep P ρ m w ρ' m' w') (ho:∀ i b,m.get i=some b→b.own=false):Below w.heap.size w w':=
 ⟨h.fr.os,h.fr.tape,h.fr.output,h.fr.size,fun k hk=>h.fr.keep k hk (by
  rintro ⟨i,b,x,h1,h2,_⟩
  rw [ho i b h1] at h2; cases h2)⟩
theorem memOf_own {bs:List ABlk} (hle:bs.length≤2 ^ depth) (ho:bs.all (fun b=>!b.own)=true):∀ i b,(memOf bs).get i=some b→b.own=false:=by
 intro i b h
 obtain ⟨_,h2⟩:=foldl_push bs { n:=0,t:=.nil } (by simpa using hle)
 unfold memOf at h
 rw [h2] at h
 simp only [Nat.not_lt_zero,if_false,Nat.sub_zero] at h
 have:=List.all_eq_true.1 ho b (List.mem_of_getElem? h)
 simpa using this
section
variable {H:Type} {enc:TypeId×Value→H} {P:Program} {W W':World}
theorem trodAll_below (hl:laidOutB P=true) (hb:Below W.heap.size W W'):∀ {ts:List TypeId} {vs:List Value} {ds:List (DataW H)} {ps:List MemPlace},(ts.all fun t=>P.readableRec t&&decide (t < P.types.size))=true→
  DataW.TrodAll enc P W 0 (fun _=>true) true ts vs ds ps→(∀ x∈ps,x.block < W.heap.size)→DataW.TrodAll enc P W' 0 (fun b=>decide (b < W.heap.size)) true ts vs ds ps
 | [],vs,ds,ps,_,h,_=>by
  obtain ⟨rfl,rfl,rfl⟩:=trodAll_nil h
  exact trodAll_mk0
 | t::ts,vs,ds,ps,hr,h,hlt=>by
  obtain ⟨v,vs1,d,ds1,a,b,rfl,rfl,rfl,h1,h2⟩:=trodAll_cons h
  simp only [List.all_cons,Bool.and_eq_true,decide_eq_true_eq] at hr
  exact ⟨a,b,Below.trod hl hr.1.1 hr.1.2 h1 hb (fun x hx=>hlt x (List.mem_append_left _ hx)),trodAll_below hl hb hr.2 h2 (fun x hx=>hlt x (List.mem_append_right _ hx)),rfl⟩
theorem law_post {f:Func} {s:ChangeSpec} {apart fresh handsOn:Bool} {args:Array Value} {ds:List (DataW H)} {before:List MemPlace} {tb:TypeId} (hres:f.resultTypes=#[tb]) (hu:P.underlying tb=some .bool) (hvars:s.vars=[])
  (hW:DataW.Whole enc P f.params.toList s.vars apart W args.toList ds [] before) (hfn:s.fn H ds={ results:=[.lit (.bool true)],args:=ds }) (hl:laidOutB P=true)
  (hr:(f.params.toList.all fun t=>P.readableRec t&&decide (t < P.types.size))=true) (hb:Below W.heap.size W W'):s.post enc P f apart fresh handsOn false W args (.bool true) W':=by
 have hlt:=hW.lt
 have hW':=hW
 obtain ⟨p,q,hA,hV,rfl,_,_⟩:=hW'
 rw [hvars] at hV
 obtain rfl:q=[]:=hV
 rw [List.append_nil] at hlt hW
 refine ⟨ds,[],p,[],p,[],hW,?_,?_,?_,hb.frame _,fun h=>by cases h⟩
 ·rw [List.append_nil,hfn,hres]
  exact trodAll_mk1 (shut_bool hu _)
 ·rw [List.append_nil,hfn]
  exact trodAll_below hl hb hr hA hlt
 ·rw [hvars,List.append_nil,hfn]
  rfl
end
def isTrue:Option (AV×Mem)→Bool
 | some (.bool b,_)=>b
 | _=>false
theorem closed_callsD {P:Program} {A:Nat→Option AFn} (hA:AOk P A) {n f:Nat} {bs:List ABlk} (h:isTrue (run A n f [] (memOf bs))=true) {ρ:Rho} {w:World} (hm:MR P ρ (memOf bs) w)
  (hle:bs.length≤2 ^ depth) (ho:bs.all (fun b=>!b.own)=true):Calls P f #[] w fun e w'=>e=.returned (.bool true)∧Below w.heap.size w w'∧w.drawn≤w'.drawn:=by
 unfold isTrue at h
 split at h
 ·rename_i b m' hr
  subst h
  refine (run_ok hA hr hm (rargs:=#[]) (by simp [VRs])).mono ?_
  rintro e w' ⟨r,ρ',rfl,hv,hs⟩
  simp only [VR] at hv
  subst hv
  exact ⟨rfl,hs.below (memOf_own hle ho),hs.fr.drawn⟩
 ·cases h
end
end AG
