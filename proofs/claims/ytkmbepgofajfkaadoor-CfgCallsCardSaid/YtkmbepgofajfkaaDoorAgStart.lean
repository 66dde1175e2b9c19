/- The abstract machine, part 16: where a call starts: the listed variables. -/
import Derived.Test.YtkmbepgofajfkaaDoorAgFn
import Derived.LaidSub
import Derived.LaidHandle
import Derived.FnData
namespace AG
noncomputable section
open Go Go.RowKit
def rdPs (r:TypeId→DataW Unit→Option (List AV)) (P:Program):List (Nat×TypeId)→List (DataW Unit)→Nat→Option (List AV)
 | [],[],_=>some []
 | (o,t)::ps,d::ds,at'=>if o=at' then match r t d,rdPs r P ps ds (at'+P.cellsOf t) with
  | some l,some l'=>if l.length=P.cellsOf t then some (l++l') else none
  | _,_=>none else none
 | _,_,_=>none
def rdF (P:Program):Nat→TypeId→DataW Unit→Option (List AV)
 | 0,_,_=>none
 | n+1,t,d=>match P.underlying t,d with
  | some .bool,.lit (.bool b)=>some [.bool b]
  | some (.int _),.lit (.int k i)=>some [.int k i]
  | some .string,.lit (.string s)=>some [.str ⟨⟨s⟩⟩]
  | some (.struct fs),.agg ds=>match rdPs (rdF P n) P (fs.toList.map fun f=>(f.offset,f.type)) ds 0 with
   | some l=>if l.length=P.cellsOf t then some l else none
   | none=>none
  | some (.array k e),.agg ds=>match rdPs (rdF P n) P ((List.range k).map fun i=>(i*P.cellsOf e,e)) ds 0 with
   | some l=>if l.length=P.cellsOf t then some l else none
   | none=>none
  | _,_=>none
section
variable {P:Program} {w:World} {ρ:Rho}
theorem rdPs_ok {H:Type} {f:TypeId→List Value→Option (DataW H×List MemPlace)} {g:DataW H→DataW Unit} {r:TypeId→DataW Unit→Option (List AV)} {cs:List Value} (hr:∀ t vs d p l,f t vs=some (d,p)→r t (g d)=some l→VRs ρ l vs):
  ∀ (ps:List (Nat×TypeId)) (xs:List (DataW H×List MemPlace)) (at':Nat) (l:List AV),(ps.mapM fun x=>f x.2 ((cs.drop x.1).take (P.cellsOf x.2)))=some xs→rdPs r P ps (xs.map fun x=>g x.1) at'=some l→
   VRs ρ l ((cs.drop at').take l.length)
 | [],xs,at',l,h,hl=>by
  simp only [List.mapM_nil] at h
  obtain rfl:[]=xs:=Option.some.inj h
  simp only [List.map_nil,rdPs,Option.some.injEq] at hl
  subst hl
  simp [VRs]
 | (o,t)::ps,xs,at',l,h,hl=>by
  simp only [List.mapM_cons,Option.bind_eq_bind,Option.bind_eq_some_iff] at h
  obtain ⟨x,hx,ys,hys,h⟩:=h
  obtain rfl:x::ys=xs:=Option.some.inj h
  simp only [List.map_cons,rdPs] at hl
  split at hl
  ·rename_i ho
   subst ho
   split at hl
   ·rename_i l1 l2 h1 h2
    split at hl
    ·rename_i hlen
     simp only [Option.some.injEq] at hl
     subst hl
     have a1:=hr _ _ x.1 x.2 _ hx h1
     have a2:=rdPs_ok hr ps ys _ l2 hys h2
     have e:((cs.drop o).take (l1++l2).length)=(cs.drop o).take (P.cellsOf t)++(cs.drop (o+P.cellsOf t)).take l2.length:=by
      rw [List.length_append,hlen,List.take_add,List.drop_drop]
     rw [e]
     exact a1.append a2
    ·cases hl
   ·cases hl
  ·cases hl
theorem rdF_ok {enc:TypeId×Value→Unit} {base:Nat} {spare:Nat→Bool} {held:Bool}:∀ (n fuel:Nat) (t:TypeId) (cs:List Value) (d:DataW Unit) (p:List MemPlace) (l:List AV),
  DataW.trod enc P w base spare held fuel t cs=some (d,p)→rdF P n t d=some l→VRs ρ l cs
 | 0,_,_,_,_,_,_,_,h=>by simp [rdF] at h
 | n+1,0,_,_,_,_,_,h,_=>by simp [DataW.trod] at h
 | n+1,fuel+1,t,cs,d,p,l,h,hl=>by
  have ih:=rdF_ok (enc:=enc) (base:=base) (spare:=spare) (held:=held) n fuel
  unfold rdF at hl
  unfold DataW.trod at h
  split at hl
  ·rename_i b hu
   rw [hu] at h
   split at h <;> simp_all
   subst hl
   simp [VRs,VR]
  ·rename_i q k i hu
   rw [hu] at h
   split at h <;> simp_all
   obtain ⟨h1,h2,h3⟩:=h
   subst hl
   simp [VRs,VR]
  ·rename_i s hu
   rw [hu] at h
   split at h <;> simp_all
   obtain ⟨h1,h2,h3⟩:=h
   subst hl
   simp [VRs,VR,←h2]
  ·rename_i fs ds hu
   rw [hu] at h
   split at hl
   ·rename_i l' hl'
    split at hl
    ·rename_i hlen
     simp only [Option.some.injEq] at hl
     subst hl
     have key:∃ xs,cs.length=P.cellsOf t∧(fs.toList.mapM fun f=>DataW.trod enc P w base spare held fuel f.type ((cs.drop f.offset).take (P.cellsOf f.type)))=some xs∧xs.map (·.1)=ds:=by
      split at h <;> simp_all
      obtain ⟨_,xs,h1,h2,_⟩:=h
      exact ⟨xs,h1,h2⟩
     obtain ⟨xs,hc,hx,rfl⟩:=key
     have:=rdPs_ok (P:=P) (ρ:=ρ) (f:=fun t vs=>DataW.trod enc P w base spare held fuel t vs) (g:=id) (r:=rdF P n) (cs:=cs) (fun t vs d p l h1 h2=>ih t vs d p l h1 h2) (fs.toList.map fun f=>(f.offset,f.type)) xs 0 l'
      (by rw [List.mapM_map]; exact hx) (by simpa using hl')
     simpa [hlen,←hc] using this
    ·cases hl
   ·cases hl
  ·rename_i k e ds hu
   rw [hu] at h
   split at hl
   ·rename_i l' hl'
    split at hl
    ·rename_i hlen
     simp only [Option.some.injEq] at hl
     subst hl
     have key:∃ xs,cs.length=P.cellsOf t∧((List.range k).mapM fun i=>DataW.trod enc P w base spare held fuel e ((cs.drop (i*P.cellsOf e)).take (P.cellsOf e)))=some xs∧xs.map (·.1)=ds:=by
      split at h <;> simp_all
      obtain ⟨_,xs,h1,h2,_⟩:=h
      exact ⟨xs,h1,h2⟩
     obtain ⟨xs,hc,hx,rfl⟩:=key
     have:=rdPs_ok (P:=P) (ρ:=ρ) (f:=fun t vs=>DataW.trod enc P w base spare held fuel t vs) (g:=id) (r:=rdF P n) (cs:=cs) (fun t vs d p l h1 h2=>ih t vs d p l h1 h2) ((List.range k).map fun i=>(i*P.cellsOf e,e)) xs 0 l'
      (by rw [List.mapM_map]; exact hx) (by simpa using hl')
     simpa [hlen,←hc] using this
    ·cases hl
   ·cases hl
  ·cases hl
theorem laid_mem {laid:List (String×DataW Unit)} {n:String} {d:DataW Unit}:∀ {laid:List (String×DataW Unit)} {ps:List MemPlace},DataW.LaidVars P w laid ps→(n,d)∈laid→
  ∃ g t cs fuel p,P.globalNamed n=some g∧(P.globals[g]?).map (·.type)=some t∧w.var? P n=some cs∧DataW.trod (fun _=>()) P w 0 (fun _=>true) false fuel t cs.toList=some (d,p)
 | [],_,_,h=>by cases h
 | (n',d')::r,ps,hl,h=>by
  unfold DataW.LaidVars at hl
  obtain ⟨g,t,cs,fuel,p,q,h1,h2,h3,h4,h5,h6⟩:=hl
  rcases List.mem_cons.1 h with h | h
  ·cases h; exact ⟨g,t,cs,fuel,p,h1,h2,h3,h4⟩
  ·exact laid_mem (laid:=laid) h5 h
theorem var_heap {n:String} {g:Nat} {cs:Array Value} (hg:P.globalNamed n=some g) (h:w.var? P n=some cs):∃ e fz,w.heap[g]?=some (.cells cs e fz):=by
 simp only [World.var?,hg,Option.bind_some] at h
 split at h
 ·rename_i hc
  cases h
  exact ⟨_,_,hc⟩
 ·cases h
theorem flat_blk {laid:List (String×DataW Unit)} (hm:laidMet P laid w) {n:String} {d:DataW Unit} (hd:(n,d)∈laid) {g:Nat} {t:TypeId} {k:Nat} {l:List AV} (hg:P.globalNamed n=some g)
  (ht:(P.globals[g]?).map (·.type)=some t) (hr:rdF P k t d=some l) (ρ:Rho):BR ρ ⟨g,0,0,0⟩ w (.cells l false):=by
 obtain ⟨ps,hl,_⟩:=hm
 obtain ⟨g',t',cs,fuel,p,h1,h2,h3,h4⟩:=laid_mem (laid:=laid) hl hd
 rw [hg] at h1; cases h1
 rw [ht] at h2; cases h2
 have hv:=rdF_ok (ρ:=ρ) k fuel t cs.toList d p l h4 hr
 have hlen:=hv.length
 obtain ⟨e,fz,hc⟩:=var_heap hg h3
 refine ⟨cs,e,fz,hc,?_,(fun h=>by cases h),?_⟩
 ·have:(cs.toList.drop 0).take l.length=cs.toList:=by
   rw [List.drop_zero,←hlen,List.take_length]
  rw [this]; exact hv
 ·simp only [Array.length_toList] at hlen
  dsimp only
  constructor
  ·omega
  ·intro _ _; omega
theorem mapM_range_shift {α:Type} {f:Nat→Option α} {n:Nat} {xs:List α} (h:(List.range n).mapM f=some xs):xs.length=n∧∀ i,i < n→∃ x,xs[i]?=some x∧f i=some x:=by
 have gen:∀ (l:List Nat) (xs:List α),l.mapM f=some xs→xs.length=l.length∧∀ (i:Nat) (a:Nat),l[i]?=some a→∃ x,xs[i]?=some x∧f a=some x:=by
  intro l
  induction l with
  | nil=>intro xs h; simp only [List.mapM_nil] at h; obtain rfl:[]=xs:=Option.some.inj h; exact ⟨rfl,fun i a h=>by simp at h⟩
  | cons a l ih=>
   intro xs h
   simp only [List.mapM_cons,Option.bind_eq_bind,Option.bind_eq_some_iff] at h
   obtain ⟨x,hx,ys,hys,h⟩:=h
   obtain rfl:x::ys=xs:=Option.some.inj h
   obtain ⟨h1,h2⟩:=ih ys hys
   refine ⟨by simp [h1],fun i b hb=>?_⟩
   cases i with
   | zero=>simp only [List.getElem?_cons_zero,Option.some.injEq] at hb ⊢; subst hb; exact ⟨x,rfl,hx⟩
   | succ i=>simp only [List.getElem?_cons_succ] at hb ⊢; exact h2 i b hb
 obtain ⟨h1,h2⟩:=gen _ _ h
 exact ⟨by simpa using h1,fun i hi=>h2 i i (by simp [hi])⟩
theorem mapM_of_get {α β:Type} {f:α→Option β}:∀ (l:List α) (xs:List β),xs.length=l.length→(∀ (i:Nat) (a:α),l[i]?=some a→f a=xs[i]?)→l.mapM f=some xs
 | [],xs,h,_=>by
  have:xs=[]:=List.length_eq_zero_iff.1 h
  subst this; rfl
 | a::l,[],h,_=>by simp at h
 | a::l,x::xs,h,hh=>by
  have h1:f a=some x:=hh 0 a rfl
  have h2:=mapM_of_get l xs (by simpa using h) (fun i b hb=>hh (i+1) b (by simpa using hb))
  simp [List.mapM_cons,h1,h2]
theorem cell_add {a:Addr} {i:Nat} {x:Value} (h:w.cell? (a.add i)=some x):∃ rc e fz,w.heap[a.block]?=some (.cells rc e fz)∧rc[a.off+i]?=some x∧(i=0→a.spot=none):=by
 obtain ⟨b,off,spot⟩:=a
 unfold Addr.add at h
 unfold World.cell? at h
 by_cases h0:i=0
 ·subst h0
  simp only [if_true] at h
  split at h
  ·rename_i hh
   split at h
   ·cases h
   ·rename_i hs
    exact ⟨_,_,_,hh,h,fun _=>by cases spot <;> simp at hs ⊢⟩
  ·cases h
 ·simp only [if_neg h0] at h
  split at h
  ·rename_i hh
   exact ⟨_,_,_,hh,by simpa using h,fun e=>absurd e h0⟩
  ·cases h
theorem cells_take {a:Addr} {k n:Nat} {vs:List Value} {rc:Array Value} {e:TypeId} {fz:Nat×Nat} (hh:w.heap[a.block]?=some (.cells rc e fz)) (h:w.cells? 0 (a.add k) n=some vs):vs=(rc.toList.drop (a.off+k)).take n:=by
 simp only [World.cells?,Nat.zero_le,if_true] at h
 obtain ⟨h1,h2⟩:=mapM_range_shift h
 have hb:(a.add k).block=a.block∧(a.add k).off=a.off+k:=by
  unfold Addr.add; split
  ·rename_i h0; subst h0; exact ⟨rfl,rfl⟩
  ·exact ⟨rfl,rfl⟩
 have hget:∀ i,i < n→∃ x,vs[i]?=some x∧rc[a.off+k+i]?=some x:=by
  intro i hi
  obtain ⟨x,h3,h4⟩:=h2 i hi
  obtain ⟨rc',e',fz',q1,q2,_⟩:=cell_add h4
  rw [hb.1,hh] at q1
  cases q1
  rw [hb.2] at q2
  exact ⟨x,h3,q2⟩
 apply List.ext_getElem?
 intro i
 by_cases hi:i < n
 ·obtain ⟨x,h3,h4⟩:=hget i hi
  rw [h3,List.getElem?_take,if_pos hi,List.getElem?_drop,Array.getElem?_toList,h4]
 ·rw [List.getElem?_eq_none (by omega),List.getElem?_eq_none]
  simp; omega
theorem slice_blk {laid:List (String×DataW Unit)} (hm:laidMet P laid w) {n:String} {ds:List (DataW Unit)} (hd:(n,.slice ds [])∈laid) {g:Nat} {t e:TypeId} {k len c:Nat} {l:List AV} (hg:P.globalNamed n=some g)
  (ht:(P.globals[g]?).map (·.type)=some t) (hu:P.underlying t=some (.slice e)) (hlen:ds.length=len+1) (hc:P.cellsOf e=c+1)
  (hr:rdPs (rdF P k) P ((List.range (len+1)).map fun i=>(i*P.cellsOf e,e)) ds 0=some l) (hll:0 < l.length):
  ∃ x:At,∀ (ρ:Rho) (b:Nat),ρ[b]?=some x→BR ρ ⟨g,0,0,0⟩ w (.cells [.slice b 0 (len+1) (some (len+1)) (c+1)] false)∧BR ρ x w (.cells l false):=by
 obtain ⟨ps,hl,_⟩:=hm
 obtain ⟨g',t',cs,fuel,p,h1,h2,h3,h4⟩:=laid_mem (laid:=laid) hl hd
 rw [hg] at h1; cases h1
 rw [ht] at h2; cases h2
 rcases DataW.trod_slice hu h4 with ⟨_,hx⟩ | ⟨a,ln,cap,elems,rest,fl,_,hcs,hx,_,hlc,hcap,hlen2,hel,hsp,_⟩
 ·simp at hx
 ·simp only [Prod.mk.injEq,DataW.slice.injEq] at hx
  obtain ⟨⟨hds,hre⟩,_⟩:=hx
  have hr0:rest=[]:=by simpa using hre.symm
  subst hr0
  have hn1:=(hsp rfl).1
  have hln:ln=len+1:=by
   have:=congrArg List.length hds
   simp only [List.length_map] at this
   omega
  subst hln
  have hcap':cap=len+1:=by simp at hn1; omega
  subst hcap'
  have h0:=hel 0 (by omega)
  rw [List.getElem?_eq_getElem (by omega)] at h0
  simp only [Option.bind_eq_some_iff] at h0
  obtain ⟨vs0,hv0,_⟩:=h0
  have hv0':=hv0
  simp only [World.cells?,Nat.zero_le,if_true] at hv0
  obtain ⟨_,hq⟩:=mapM_range_shift hv0
  obtain ⟨x0,_,hx0⟩:=hq 0 (by omega)
  rw [Nat.zero_mul] at hx0
  have e0:(a.add 0).add 0=a.add 0:=by simp [Addr.add]
  rw [e0] at hx0
  obtain ⟨rc,te,fz,hh,_,hspot⟩:=cell_add hx0
  have hspot:=hspot rfl
  obtain ⟨blk,off,spot⟩:=a
  simp only at hspot hh
  subst hspot
  refine ⟨⟨blk,off,rc.size,0⟩,fun ρ b hb=>?_⟩
  have hpieces:((List.range (len+1)).map fun i=>(i*P.cellsOf e,e)).mapM (fun x=>DataW.trod (fun _=>()) P w 0 (fun _=>true) false fl x.2 (((rc.toList.drop off).drop x.1).take (P.cellsOf x.2)))=some elems:=by
   refine mapM_of_get _ _ (by simp [hlen2]) (fun i x hx=>?_)
   rw [List.getElem?_map,Option.map_eq_some_iff] at hx
   obtain ⟨j,hj,rfl⟩:=hx
   have hij:i < len+1∧j=i:=by
    have:=List.getElem?_eq_some_iff.1 hj
    obtain ⟨h5,h6⟩:=this
    simp at h5 h6
    exact ⟨h5,h6.symm⟩
   obtain ⟨hi,rfl⟩:=hij
   have h7:=hel j hi
   rw [List.getElem?_eq_getElem (by omega)] at h7
   simp only [Option.bind_eq_some_iff] at h7
   obtain ⟨vs,hvs,htr⟩:=h7
   have:=cells_take (a:=⟨blk,off,none⟩) hh hvs
   rw [List.getElem?_eq_getElem (by omega),List.drop_drop,←this]
   exact htr
  have hv:=rdPs_ok (P:=P) (ρ:=ρ) (f:=fun t vs=>DataW.trod (fun _=>()) P w 0 (fun _=>true) false fl t vs) (g:=id) (r:=rdF P k) (cs:=rc.toList.drop off) (fun t vs d p l h1 h2=>rdF_ok k fl t vs d p l h1 h2) _ elems 0 l hpieces
   (by rw [show (elems.map fun x=>id x.1)=ds from hds.symm]; exact hr)
  rw [List.drop_zero] at hv
  have hvl:=hv.length
  rw [List.length_take,List.length_drop] at hvl
  have hrs:rc.toList.length=rc.size:=Array.length_toList
  obtain ⟨te',fz',hgl⟩:=var_heap hg h3
  refine ⟨⟨cs,te',fz',hgl,?_,(fun h=>by cases h),?_⟩,⟨rc,te,fz,hh,hv,(fun h=>by cases h),?_⟩⟩
  ·rw [hcs]
   simp only [List.drop_zero,List.length_cons,List.length_nil,Nat.zero_add,List.take_succ_cons,List.take_zero,VRs,VR]
   exact ⟨_,_,rfl,⟨⟨blk,off,rc.size,0⟩,len+1,hb,by simp,Nat.le_refl _,hcap,rfl⟩,rfl⟩
  ·have:=congrArg List.length hcs
   simp only [Array.length_toList,List.length_cons,List.length_nil] at this
   simp [this]
  ·dsimp only
   omega
def memOf (bs:List ABlk):Mem:=bs.foldl Mem.push { n:=0,t:=.nil }
theorem foldl_push:∀ (bs:List ABlk) (m:Mem),m.n+bs.length≤2 ^ depth→(bs.foldl Mem.push m).n=m.n+bs.length∧∀ i,(bs.foldl Mem.push m).get i=if i < m.n then m.get i else bs[i - m.n]?
 | [],m,_=>⟨rfl,fun i=>by
  simp only [List.foldl_nil,List.getElem?_nil]
  split
  ·rfl
  ·rename_i h; simp [Mem.get,h]⟩
 | b::bs,m,h=>by
  simp only [List.length_cons] at h
  have hn:(m.push b).n=m.n+1:=rfl
  obtain ⟨h1,h2⟩:=foldl_push bs (m.push b) (by rw [hn]; omega)
  refine ⟨by rw [List.foldl_cons,h1,hn,List.length_cons]; omega,fun i=>?_⟩
  rw [List.foldl_cons,h2,hn]
  have hf:m.full=false:=by simp [Mem.full]; omega
  by_cases hi:i < m.n
  ·rw [if_pos (by omega),if_pos hi,Mem.get_push_old b hf (by omega)]
  ·by_cases he:i=m.n
   ·subst he
    rw [if_pos (by omega),if_neg hi,Mem.get_push_new]
    simp
   ·rw [if_neg (by omega),if_neg hi]
    have:i - m.n=(i - (m.n+1))+1:=by omega
    rw [this,List.getElem?_cons_succ]
theorem foldl_ty:∀ (bs:List ABlk) (m:Mem),(bs.foldl Mem.push m).ty=m.ty
 | [],_=>rfl
 | b::bs,m=>foldl_ty bs (m.push b)
theorem MR.of_list {bs:List ABlk} {ρ:Rho} (hl:ρ.length=bs.length) (hle:bs.length≤2 ^ depth) (hg:∀ g,g < P.globals.size→∃ x:At,ρ[g]?=some x∧x.blk=g∧x.off=0∧x.size=0)
  (hb:∀ (i:Nat) (b:ABlk),bs[i]?=some b→∃ x:At,ρ[i]?=some x∧BR ρ x w b) (ho:∀ b∈bs,b.own=false):MR P ρ (memOf bs) w:=by
 obtain ⟨h1,h2⟩:=foldl_push bs { n:=0,t:=.nil } (by simpa using hle)
 simp only [Nat.zero_add,Nat.not_lt_zero,if_false,Nat.sub_zero] at h1 h2
 refine ⟨by unfold memOf; rw [h1,hl],by unfold memOf; rw [h1]; exact hle,hg,fun i b hib=>hb i b (by unfold memOf at hib; rwa [h2] at hib),fun i j b b' x y hi hj hij hown=>?_,fun i t z ht=>by
  unfold Mem.tyOf memOf at ht
  rw [foldl_ty] at ht
  cases ht⟩
 unfold memOf at hi
 rw [h2] at hi
 rw [ho b (List.mem_of_getElem? hi)] at hown
 cases hown
end
end
end AG
