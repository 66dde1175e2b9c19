/- The abstract machine, part 17: listed variables that hold functions. -/
import Derived.Test.YtkmbepgofajfkaaDoorAgStart
import Derived.LaidMore
namespace AG
noncomputable section
open Go Go.RowKit
def heldName:DataW (List UInt8)→DataW Unit
 | .held s=>.iface "func" (.lit (.string s))
 | _=>.nil
def rdH (P:Program) (t:TypeId) (d:DataW Unit):Option (List AV):=
 match P.underlying t,d with
 | some (.func _ _ _),.iface _ (.lit (.string (b::r)))=>match (List.range P.funcs.size).filter fun f=>(P.funcs[f]?).any (·.name.toUTF8.data.toList == b::r) with
  | [f]=>some [.fn f []]
  | _=>none
 | _,_=>none
section
variable {P:Program} {w:World}
theorem rdH_ok {ρ:Rho} {fuel:Nat} {sp:Nat→Bool} {base:Nat} {t:TypeId} {vs:List Value} {d:DataW (List UInt8)} {p:List MemPlace} {l:List AV}
  (h:DataW.trod (funcToken P) P w base sp true fuel t vs=some (d,p)) (hl:rdH P t (heldName d)=some l):VRs ρ l vs:=by
 unfold rdH at hl
 split at hl
 ·rename_i ps rs va x b r ht hd
  split at hl
  ·rename_i f hf
   simp only [Option.some.injEq] at hl
   subst hl
   have hd':d=.held (b::r):=by
    cases d <;> simp [heldName] at hd
    rw [hd.2]
   subst hd'
   have hv:∃ v,vs=[v]:=by
    cases fuel with
    | zero=>simp [DataW.trod] at h
    | succ n=>
     unfold DataW.trod at h
     rw [ht] at h
     split at h <;> simp_all
   obtain ⟨v,rfl⟩:=hv
   have:=func_of_trod ht hf h
   subst this
   simp [VRs,VR]
  ·cases hl
 ·cases hl
theorem funcs_blk {laid:List (String×DataW Unit)} (hm:laidMetH P laid w) {n:String} {ds:List (DataW Unit)} (hd:(n,.iface "func table" (.agg ds))∈laid) {g:Nat} {t e:TypeId} {k:Nat} {l:List AV}
  (hg:P.globalNamed n=some g) (ht:(P.globals[g]?).map (·.type)=some t) (hu:P.underlying t=some (.array k e)) (hc:P.cellsOf t=l.length)
  (hr:rdPs (rdH P) P ((List.range k).map fun i=>(i*P.cellsOf e,e)) ((DataW.funcsOutAll ds).map heldName) 0=some l) (ρ:Rho):BR ρ ⟨g,0,0,0⟩ w (.cells l false):=by
 obtain ⟨g',t',cs,fuel,p,h1,h2,h3,h4⟩:=hm.funcs hd
 rw [hg] at h1; cases h1
 rw [ht] at h2; cases h2
 have key:∃ fl xs,cs.toList.length=P.cellsOf t∧((List.range k).mapM fun i=>DataW.trod (funcToken P) P w 0 (fun _=>true) true fl e ((cs.toList.drop (i*P.cellsOf e)).take (P.cellsOf e)))=some xs∧xs.map (·.1)=DataW.funcsOutAll ds:=by
  cases fuel with
  | zero=>simp [DataW.trod] at h4
  | succ fl=>
   unfold DataW.trod at h4
   rw [hu] at h4
   have e0:(DataW.agg ds).funcsOut=.agg (DataW.funcsOutAll ds):=by simp [DataW.funcsOut]
   rw [e0] at h4
   split at h4 <;> simp_all
   obtain ⟨_,xs,h5,h6,_⟩:=h4
   exact ⟨fl,xs,h5,h6⟩
 obtain ⟨fl,xs,hlen,hx,he⟩:=key
 have hv:=rdPs_ok (P:=P) (ρ:=ρ) (f:=fun t vs=>DataW.trod (funcToken P) P w 0 (fun _=>true) true fl t vs) (g:=heldName) (r:=rdH P) (cs:=cs.toList) (fun t vs d p l h1 h2=>rdH_ok h1 h2) ((List.range k).map fun i=>(i*P.cellsOf e,e)) xs 0 l
  (by rw [List.mapM_map]; exact hx) (by rw [show (xs.map fun x=>heldName x.1)=(DataW.funcsOutAll ds).map heldName from by rw [←he,List.map_map]; rfl]; exact hr)
 obtain ⟨e',fz,hc'⟩:=var_heap hg h3
 rw [hc] at hlen
 simp only [Array.length_toList] at hlen
 refine ⟨cs,e',fz,hc',?_,(fun h=>by cases h),?_⟩
 ·exact hv
 ·dsimp only
  constructor
  ·omega
  ·intro _ _; omega
theorem laidMetH_data {l:List (String×DataW Unit)} (h:laidMetH P l w):laidMet P (l.filter fun x=>x.2.handleName?.isNone) w:=by
 unfold laidMetH at h
 generalize hfl:(l.filter fun x=>x.2.handleName?.isSome)=fl at h
 cases fl with
 | nil=>
  have e:(l.filter fun x=>x.2.handleName?.isNone)=l:=by
   rw [List.filter_eq_self]
   intro x hx
   have:=(List.filter_eq_nil_iff.1 hfl) x hx
   cases hn:x.2.handleName? with
   | none=>rfl
   | some s=>rw [hn] at this; exact absurd rfl this
  rw [e]
  exact h
 | cons a as=>exact h.1
end
end
end AG
