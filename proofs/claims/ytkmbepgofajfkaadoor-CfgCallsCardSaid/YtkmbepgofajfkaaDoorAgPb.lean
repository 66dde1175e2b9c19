/- What the functions that read images and paths compute, and the laws of that. -/
import Derived.Test.YtkmbepgofajfkaaDoorAgPa
namespace AG
open Go
set_option maxRecDepth 100000
set_option maxHeartbeats 4000000
open Go.RowKit Go.ChangeShapes Go.WideShapes
def Lits:List (Option IntKind)→List Value→Prop
 | [],cs=>cs=[]
 | some k::ks,cs=>∃ n rest,cs=.int k n::rest∧(Lit.int k n).wf=true∧Lits ks rest
 | none::ks,cs=>∃ b rest,cs=.bool b::rest∧Lits ks rest
theorem Lits.append:∀ {ks ks':List (Option IntKind)} {cs cs':List Value},Lits ks cs→Lits ks' cs'→Lits (ks++ks') (cs++cs')
 | [],_,_,_,h,h'=>by simp only [Lits] at h; subst h; simpa using h'
 | some k::ks,_,_,_,h,h'=>by
  simp only [Lits] at h
  obtain ⟨n,rest,rfl,h1,h2⟩:=h
  simp only [List.cons_append,Lits]
  exact ⟨n,_,rfl,h1,Lits.append h2 h'⟩
 | none::ks,_,_,_,h,h'=>by
  simp only [Lits] at h
  obtain ⟨b,rest,rfl,h2⟩:=h
  simp only [List.cons_append,Lits]
  exact ⟨b,_,rfl,Lits.append h2 h'⟩
theorem Lits.length:∀ {ks:List (Option IntKind)} {cs:List Value},Lits ks cs→cs.length=ks.length
 | [],_,h=>by simp only [Lits] at h; subst h; rfl
 | some k::ks,_,h=>by
  simp only [Lits] at h
  obtain ⟨n,rest,rfl,_,h2⟩:=h
  simp [Lits.length h2]
 | none::ks,_,h=>by
  simp only [Lits] at h
  obtain ⟨n,rest,rfl,h2⟩:=h
  simp [Lits.length h2]
def kePs (r:TypeId→Option (List (Option IntKind))) (P:Program):List (Nat×TypeId)→Nat→Option (List (Option IntKind))
 | [],_=>some []
 | (o,t)::ps,at'=>if o=at' then match r t,kePs r P ps (at'+P.cellsOf t) with
  | some l,some l'=>if l.length=P.cellsOf t then some (l++l') else none
  | _,_=>none else none
def keF (P:Program):Nat→TypeId→Option (List (Option IntKind))
 | 0,_=>none
 | n+1,t=>match P.underlying t with
  | some (.int k)=>some [some k]
  | some .bool=>some [none]
  | some (.struct fs)=>match kePs (keF P n) P (fs.toList.map fun f=>(f.offset,f.type)) 0 with
   | some l=>if l.length=P.cellsOf t then some l else none
   | none=>none
  | _=>none
section
variable {P:Program} {w:World} {H:Type} {enc:TypeId×Value→H} {base:Nat} {spare:Nat→Bool} {held:Bool}
theorem kePs_ok {f:TypeId→List Value→Option (DataW H×List MemPlace)} {r:TypeId→Option (List (Option IntKind))} {cs:List Value} (hr:∀ t vs x l,f t vs=some x→r t=some l→Lits l vs):
  ∀ (ps:List (Nat×TypeId)) (xs:List (DataW H×List MemPlace)) (at':Nat) (l:List (Option IntKind)),(ps.mapM fun x=>f x.2 ((cs.drop x.1).take (P.cellsOf x.2)))=some xs→kePs r P ps at'=some l→
   Lits l ((cs.drop at').take l.length)
 | [],xs,at',l,h,hl=>by
  simp only [kePs,Option.some.injEq] at hl
  subst hl
  simp [Lits]
 | (o,t)::ps,xs,at',l,h,hl=>by
  simp only [List.mapM_cons,Option.bind_eq_bind,Option.bind_eq_some_iff] at h
  obtain ⟨x,hx,ys,hys,h⟩:=h
  simp only [kePs] at hl
  split at hl
  ·rename_i ho
   subst ho
   split at hl
   ·rename_i l1 l2 h1 h2
    split at hl
    ·rename_i hlen
     simp only [Option.some.injEq] at hl
     subst hl
     have a1:=hr _ _ x _ hx h1
     have a2:=kePs_ok hr ps ys _ l2 hys h2
     have e:((cs.drop o).take (l1++l2).length)=(cs.drop o).take (P.cellsOf t)++(cs.drop (o+P.cellsOf t)).take l2.length:=by
      rw [List.length_append,hlen,List.take_add,List.drop_drop]
     rw [e]
     exact a1.append a2
    ·cases hl
   ·cases hl
  ·cases hl
theorem keF_ok:∀ (n fuel:Nat) (t:TypeId) (cs:List Value) (x:DataW H×List MemPlace) (l:List (Option IntKind)),
  DataW.trod enc P w base spare held fuel t cs=some x→keF P n t=some l→Lits l cs
 | 0,_,_,_,_,_,_,h=>by simp [keF] at h
 | n+1,0,_,_,_,_,h,_=>by simp [DataW.trod] at h
 | n+1,fuel+1,t,cs,x,l,h,hl=>by
  have ih:=keF_ok n fuel
  unfold keF at hl
  unfold DataW.trod at h
  split at hl
  ·rename_i k hu
   rw [hu] at h
   simp only [Option.some.injEq] at hl
   subst hl
   split at h <;> simp_all
   obtain ⟨⟨h1,h2⟩,_⟩:=h
   subst h1
   simp [Lits,h2]
  ·rename_i hu
   rw [hu] at h
   simp only [Option.some.injEq] at hl
   subst hl
   split at h <;> simp_all
   simp [Lits]
  ·rename_i fs hu
   rw [hu] at h
   split at hl
   ·rename_i l' hl'
    split at hl
    ·rename_i hlen
     simp only [Option.some.injEq] at hl
     subst hl
     have key:∃ xs,cs.length=P.cellsOf t∧(fs.toList.mapM fun f=>DataW.trod enc P w base spare held fuel f.type ((cs.drop f.offset).take (P.cellsOf f.type)))=some xs:=by
      split at h <;> simp_all
      obtain ⟨_,xs,h1,_⟩:=h
      exact ⟨xs,h1⟩
     obtain ⟨xs,hc,hx⟩:=key
     have:=kePs_ok (P:=P) (f:=fun t vs=>DataW.trod enc P w base spare held fuel t vs) (r:=keF P n) (cs:=cs) (fun t vs x l h1 h2=>ih t vs x l h1 h2) (fs.toList.map fun f=>(f.offset,f.type)) xs 0 l'
      (by rw [List.mapM_map]; exact hx) hl'
     simpa [hlen,←hc] using this
    ·cases hl
   ·cases hl
  ·cases hl
theorem slice_open {t e:TypeId} {c:Value} {fuel:Nat} {x:DataW H×List MemPlace} (hu:P.underlying t=some (.slice e)) (hpos:0 < P.cellsOf e) (h:DataW.trod enc P w 0 (fun _=>true) held fuel t [c]=some x):
  c=.slice none 0 0∨(∃ a,c=.slice (some a) 0 0)∨∃ blk off ln cap,c=.slice (some ⟨blk,off,none⟩) ln cap∧0 < cap∧ln≤cap∧cap≤maxLen∧
   (0 < ln→∃ rc te fz,w.heap[blk]?=some (.cells rc te fz)∧off+ln*P.cellsOf e≤rc.size∧∀ i,i < ln→∃ fl y,DataW.trod enc P w 0 (fun _=>true) held fl e ((rc.toList.drop (off+i*P.cellsOf e)).take (P.cellsOf e))=some y∧((rc.toList.drop (off+i*P.cellsOf e)).take (P.cellsOf e)).length=P.cellsOf e):=by
 rcases DataW.trod_slice hu h with ⟨hcs,_⟩ | ⟨a,ln,cap,elems,rest,fl,_,hcs,_,_,hlc,hcap,hlen,hel,hrest,_⟩
 ·simp only [List.cons.injEq,and_true] at hcs
  exact .inl hcs
 ·simp only [List.cons.injEq,and_true] at hcs
  subst hcs
  by_cases hc0:cap=0
  ·subst hc0
   obtain rfl:ln=0:=by omega
   exact .inr (.inl ⟨a,rfl⟩)
  refine .inr (.inr ?_)
  have hsp:a.spot=none:=by
   by_cases h0:0 < ln
   ·have h7:=hel 0 h0
    rw [List.getElem?_eq_getElem (by omega)] at h7
    simp only [Option.bind_eq_some_iff] at h7
    obtain ⟨vs,hvs,_⟩:=h7
    simp only [World.cells?,Nat.zero_le,if_true,Nat.zero_mul] at hvs
    obtain ⟨_,hq⟩:=mapM_range_shift hvs
    obtain ⟨x0,_,hx0⟩:=hq 0 hpos
    have e0:(a.add 0).add 0=a:=by simp [Addr.add]
    rw [e0] at hx0
    exact World.cell?_spot hx0
   ·obtain rfl:ln=0:=by omega
    obtain ⟨hr1,hr2⟩:=hrest rfl
    have h7:=hr2 0 (by omega)
    rw [List.getElem?_eq_getElem (by omega)] at h7
    simp only [Option.bind_eq_some_iff] at h7
    obtain ⟨vs,hvs,_⟩:=h7
    simp only [World.cells?,Nat.zero_le,if_true,Nat.zero_mul,Nat.add_zero] at hvs
    obtain ⟨_,hq⟩:=mapM_range_shift hvs
    obtain ⟨x0,_,hx0⟩:=hq 0 hpos
    have e0:(a.add 0).add 0=a:=by simp [Addr.add]
    rw [e0] at hx0
    exact World.cell?_spot hx0
  obtain ⟨blk,off,spot⟩:=a
  simp only at hsp
  subst hsp
  refine ⟨blk,off,ln,cap,rfl,by omega,hlc,hcap,fun h0=>?_⟩
  have get:∀ i,i < ln→∃ vs,w.cells? 0 ((⟨blk,off,none⟩:Addr).add (i*P.cellsOf e)) (P.cellsOf e)=some vs∧∃ y,DataW.trod enc P w 0 (fun _=>true) held fl e vs=some y:=by
   intro i hi
   have h7:=hel i hi
   rw [List.getElem?_eq_getElem (by omega)] at h7
   simp only [Option.bind_eq_some_iff] at h7
   obtain ⟨vs,hvs,htr⟩:=h7
   exact ⟨vs,hvs,_,htr⟩
  obtain ⟨vs0,hv0,_⟩:=get 0 h0
  simp only [World.cells?,Nat.zero_le,if_true] at hv0
  obtain ⟨_,hq⟩:=mapM_range_shift hv0
  obtain ⟨x0,_,hx0⟩:=hq 0 hpos
  rw [Nat.zero_mul] at hx0
  have e0:((⟨blk,off,none⟩:Addr).add 0).add 0=(⟨blk,off,none⟩:Addr).add 0:=by simp [Addr.add]
  rw [e0] at hx0
  obtain ⟨rc,te,fz,hh,_,_⟩:=cell_add hx0
  have len:∀ vs a,w.cells? 0 a (P.cellsOf e)=some vs→vs.length=P.cellsOf e:=by
   intro vs a hvs
   simp only [World.cells?,Nat.zero_le,if_true] at hvs
   simpa using mapM_some_length hvs
  refine ⟨rc,te,fz,hh,?_,fun i hi=>?_⟩
  ·obtain ⟨vs,hvs,y,htr⟩:=get (ln - 1) (by omega)
   have hl:=len _ _ hvs
   have:=cells_take (a:=⟨blk,off,none⟩) hh hvs
   rw [this,List.length_take,List.length_drop,Array.length_toList] at hl
   have hm:ln*P.cellsOf e=(ln - 1)*P.cellsOf e+P.cellsOf e:=by
    obtain ⟨k,rfl⟩:∃ k,ln=k+1:=⟨ln - 1,by omega⟩
    rw [Nat.add_sub_cancel,Nat.add_mul,Nat.one_mul]
   simp only at hl
   omega
  ·obtain ⟨vs,hvs,y,htr⟩:=get i hi
   have hl:=len _ _ hvs
   have:=cells_take (a:=⟨blk,off,none⟩) hh hvs
   rw [this] at htr hl
   exact ⟨fl,y,htr,hl⟩
def CapS (v:AV) (c:Nat):Prop:=v=.nils∨∃ b o n cap e,v=.slice b o n cap e∧((∃ k,cap=some k∧n≤k)∨(cap=none∧e=c∧0 < c))
theorem slice_arg2 {t e:TypeId} {c:Value} {fuel:Nat} {x:DataW H×List MemPlace} (hu:P.underlying t=some (.slice e)) {k:Nat} (hc:P.cellsOf e=k) (hpos:0 < k) (h:DataW.trod enc P w 0 (fun _=>true) held fuel t [c]=some x) (hsp:∀ a l q,c=.slice (some a) l q→a.spot=none)
  {α:Type} (f:α→List AV) (R:α→Prop) (hf:∀ x,(f x).length=k) (row:∀ cs fl y,DataW.trod enc P w 0 (fun _=>true) held fl e cs=some y→∃ x,R x∧∀ ρ,VRs ρ (f x) cs) (B:Nat):
  ∃ (av:AV) (b:ABlk) (x:At) (l:List α),sliceArg f k B av b l∧(∀ y∈l,R y)∧(l.length:Int)≤maxLen∧CapS av k∧∀ ρ:Rho,ρ[B]?=some x→VR ρ av c∧BR ρ x w b:=by
 subst hc
 have emp:∀ (blk off cap:Nat),cap≤maxLen→c=.slice (some ⟨blk,off,none⟩) 0 cap→∃ (av:AV) (b:ABlk) (x:At) (l:List α),sliceArg f (P.cellsOf e) B av b l∧(∀ y∈l,R y)∧(l.length:Int)≤maxLen∧CapS av (P.cellsOf e)∧∀ ρ:Rho,ρ[B]?=some x→VR ρ av c∧BR ρ x w b:=by
  intro blk off cap h2 hcc
  subst hcc
  refine ⟨.slice B 0 0 (some cap) (P.cellsOf e),.dead,⟨blk,off,0,0⟩,[],.inr ⟨cap,rfl,.inl ⟨rfl,rfl⟩⟩,(fun _ h=>by cases h),by simp [maxLen],.inr ⟨_,_,_,_,_,rfl,.inl ⟨cap,rfl,by omega⟩⟩,fun ρ hx=>⟨?_,trivial⟩⟩
  simp only [VR]
  exact ⟨⟨blk,off,0,0⟩,cap,hx,rfl,by omega,h2,rfl⟩
 rcases slice_open hu hpos h with rfl | ⟨a,rfl⟩ | ⟨blk,off,ln,cap,rfl,h0,h1,h2,h3⟩
 ·exact ⟨.nils,.dead,⟨0,0,0,0⟩,[],.inl ⟨rfl,rfl,rfl⟩,(fun _ h=>by cases h),by simp [maxLen],.inl rfl,fun ρ _=>⟨by simp [VR],trivial⟩⟩
 ·have hs:=hsp a 0 0 rfl
  obtain ⟨blk,off,spot⟩:=a
  simp only at hs
  subst hs
  exact emp blk off 0 (by simp [maxLen]) rfl
 ·by_cases h0':0 < ln
  ·obtain ⟨rc,te,fz,hh,hsz,hrow⟩:=h3 h0'
   obtain ⟨l,hl,hR,hv⟩:=rows_of f R (P.cellsOf e) hf (rc.toList.drop off) ln (fun i hi=>by
    obtain ⟨fl,y,htr,_⟩:=hrow i hi
    obtain ⟨x,hx,hv⟩:=row _ fl y htr
    exact ⟨x,hx,fun ρ=>by rw [List.drop_drop]; exact hv ρ⟩) (by
    have e:rc.toList.length=rc.size:=Array.length_toList
    rw [List.length_drop,e]; omega)
   refine ⟨.slice B 0 l.length (some cap) (P.cellsOf e),.cells (l.flatMap f) false,⟨blk,off,rc.size,0⟩,l,.inr ⟨cap,rfl,.inr rfl⟩,hR,by omega,.inr ⟨_,_,_,_,_,rfl,.inl ⟨cap,rfl,by omega⟩⟩,fun ρ hx=>⟨?_,?_⟩⟩
   ·simp only [VR,hl]
    exact ⟨⟨blk,off,rc.size,0⟩,cap,hx,rfl,h1,h2,rfl⟩
   ·refine ⟨rc,te,fz,hh,?_,(fun h=>by cases h),?_⟩
    ·rw [flat_len f _ hf,hl]; exact hv ρ
    ·simp only [flat_len f _ hf,hl]; omega
  ·obtain rfl:ln=0:=by omega
   exact emp blk off cap h2 rfl
def innerArg (B:Nat) (v:AV) (b:ABlk) (l:List Int):Prop:=sliceArg iC1 1 B v b l∨(v=.es∧b=.dead∧l=[])
theorem inner_arg {t e:TypeId} {c:Value} {fuel:Nat} {x:DataW H×List MemPlace} (hu:P.underlying t=some (.slice e)) (hue:P.underlying e=some (.int .i64)) (hc:P.cellsOf e=1) (h:DataW.trod enc P w 0 (fun _=>true) held fuel t [c]=some x) (B:Nat):
  ∃ (av:AV) (b:ABlk) (x:At) (l:List Int),innerArg B av b l∧∀ ρ:Rho,ρ[B]?=some x→VR ρ av c∧BR ρ x w b:=by
 by_cases hz:∃ a,c=.slice (some a) 0 0
 ·obtain ⟨a,rfl⟩:=hz
  exact ⟨.es,.dead,⟨0,0,0,0⟩,[],.inr ⟨rfl,rfl,rfl⟩,fun ρ _=>⟨by simp only [VR]; exact ⟨a,rfl⟩,trivial⟩⟩
 ·have hsp:∀ a l q,c=.slice (some a) l q→a.spot=none:=by
   intro a l q hcc
   rcases slice_open hu (by omega) h with h1 | h1 | ⟨blk,off,ln,cap,h1,_⟩
   ·rw [h1] at hcc; cases hcc
   ·exact absurd h1 hz
   ·rw [h1] at hcc
    simp only [Value.slice.injEq,Option.some.injEq] at hcc
    rw [←hcc.1]
  obtain ⟨av,b,x,l,h1,_,_,_,h4⟩:=slice_arg2 hu hc (by omega) h hsp iC1 (fun _=>True) (fun _=>rfl) (fun cs fl y hy=>by
   have:=keF_ok 1 fl e cs y [some .i64] hy (by unfold keF; rw [hue])
   obtain ⟨n,rest,rfl,_,rfl⟩:=this
   exact ⟨n,trivial,fun ρ=>by simp [iC1,VRs,VR]⟩) B
  exact ⟨av,b,x,l,.inl h1,h4⟩
theorem lists_of {α:Type} (Q:Nat→α→Prop):∀ ln,(∀ i,i < ln→∃ q,Q i q)→∃ L:List α,L.length=ln∧∀ (i:Nat) (q:α),L[i]?=some q→Q i q
 | 0,_=>⟨[],rfl,fun i q h=>by simp at h⟩
 | ln+1,h=>by
  obtain ⟨L,h1,h2⟩:=lists_of Q ln (fun i hi=>h i (by omega))
  obtain ⟨q,hq⟩:=h ln (by omega)
  refine ⟨L++[q],by simp [h1],fun i x hx=>?_⟩
  by_cases hi:i < L.length
  ·rw [List.getElem?_append_left hi] at hx
   exact h2 i x hx
  ·have:=(List.getElem?_eq_some_iff.1 hx).1
   rw [List.length_append,List.length_singleton] at this
   obtain rfl:i=L.length:=by omega
   rw [List.getElem?_append_right (Nat.le_refl _),Nat.sub_self] at hx
   cases hx
   rw [h1]
   exact hq
theorem atoms_arg {t e e2:TypeId} {c:Value} {fuel:Nat} {x:DataW H×List MemPlace} (hu:P.underlying t=some (.slice e)) (hue:P.underlying e=some (.slice e2)) (hu2:P.underlying e2=some (.int .i64)) (hc:P.cellsOf e=1) (hc2:P.cellsOf e2=1)
  (h:DataW.trod enc P w 0 (fun _=>true) held fuel t [c]=some x) (hsp:∀ a l q,c=.slice (some a) l q→a.spot=none) (B:Nat):
  ∃ (av:AV) (bs:List ABlk) (xs:List At) (ls:List (List Int)),bs.length=ls.length+1∧xs.length=ls.length+1∧ls.length≤maxLen∧bs.all (fun b=>!b.own)=true∧
   (∀ m:Mem,(∀ (i:Nat) (b:ABlk),bs[i]?=some b→m.get (B+i)=some b)→AS m av ls)∧
   ∀ ρ:Rho,(∀ (i:Nat) (x:At),xs[i]?=some x→ρ[B+i]?=some x)→VR ρ av c∧∀ (i:Nat) (b:ABlk),bs[i]?=some b→∃ x,xs[i]?=some x∧BR ρ x w b:=by
 have emp:∀ (blk off cap:Nat),cap≤maxLen→c=.slice (some ⟨blk,off,none⟩) 0 cap→∃ (av:AV) (bs:List ABlk) (xs:List At) (ls:List (List Int)),bs.length=ls.length+1∧xs.length=ls.length+1∧ls.length≤maxLen∧bs.all (fun b=>!b.own)=true∧
   (∀ m:Mem,(∀ (i:Nat) (b:ABlk),bs[i]?=some b→m.get (B+i)=some b)→AS m av ls)∧
   ∀ ρ:Rho,(∀ (i:Nat) (x:At),xs[i]?=some x→ρ[B+i]?=some x)→VR ρ av c∧∀ (i:Nat) (b:ABlk),bs[i]?=some b→∃ x,xs[i]?=some x∧BR ρ x w b:=by
  intro blk off cap h2 hcc
  subst hcc
  refine ⟨.slice B 0 0 (some cap) 1,[.dead],[⟨blk,off,0,0⟩],[],rfl,rfl,by simp [maxLen],rfl,fun m _=>⟨[],.inr ⟨B,0,some cap,1,rfl,fun i x hx=>by simp at hx⟩,rfl,fun i w l hw=>by simp at hw⟩,fun ρ hx=>⟨?_,fun i b hb=>?_⟩⟩
  ·simp only [VR]
   exact ⟨⟨blk,off,0,0⟩,cap,hx 0 _ rfl,rfl,by omega,h2,rfl⟩
  ·match i with
   | 0=>cases hb; exact ⟨_,rfl,trivial⟩
   | i+1=>cases hb
 rcases slice_open hu (by omega) h with rfl | ⟨a,rfl⟩ | ⟨blk,off,ln,cap,rfl,h0,h1,h2,h3⟩
 ·refine ⟨.nils,[.dead],[⟨0,0,0,0⟩],[],rfl,rfl,by simp [maxLen],rfl,fun m _=>⟨[],.inl ⟨rfl,rfl⟩,rfl,fun i w l hw=>by simp at hw⟩,fun ρ hx=>⟨by simp [VR],fun i b hb=>?_⟩⟩
  match i with
  | 0=>cases hb; exact ⟨_,rfl,trivial⟩
  | i+1=>cases hb
 ·have hs:=hsp a 0 0 rfl
  obtain ⟨blk,off,spot⟩:=a
  simp only at hs
  subst hs
  exact emp blk off 0 (by simp [maxLen]) rfl
 ·by_cases h0':0 < ln
  rotate_left
  ·obtain rfl:ln=0:=by omega
   exact emp blk off cap h2 rfl
  obtain ⟨rc,te,fz,hh,hsz,hrow⟩:=h3 h0'
  rw [hc] at hsz hrow
  simp only [Nat.mul_one] at hsz hrow
  have hcell:∀ i,i < ln→∃ ci,rc.toList[off+i]?=some ci∧∃ fl y,DataW.trod enc P w 0 (fun _=>true) held fl e [ci]=some y:=by
   intro i hi
   obtain ⟨fl,y,htr,hl⟩:=hrow i hi
   have hlt:off+i < rc.toList.length:=by rw [Array.length_toList]; omega
   refine ⟨rc.toList[off+i],List.getElem?_eq_getElem hlt,fl,y,?_⟩
   rw [List.drop_eq_getElem_cons hlt] at htr
   exact htr
  obtain ⟨L,hL,hQ⟩:=lists_of (fun i (q:AV×ABlk×At×List Int)=>∃ ci,rc.toList[off+i]?=some ci∧innerArg (B+(i+1)) q.1 q.2.1 q.2.2.2∧∀ ρ:Rho,ρ[B+(i+1)]?=some q.2.2.1→VR ρ q.1 ci∧BR ρ q.2.2.1 w q.2.1) ln (fun i hi=>by
   obtain ⟨ci,hci,fl,y,htr⟩:=hcell i hi
   obtain ⟨av,b,x,l,g1,g2⟩:=inner_arg hue hu2 hc2 htr (B+(i+1))
   exact ⟨(av,b,x,l),ci,hci,g1,g2⟩)
  refine ⟨.slice B 0 ln (some cap) 1,.cells (L.map (·.1)) false::L.map (·.2.1),⟨blk,off,rc.size,0⟩::L.map (·.2.2.1),L.map (·.2.2.2),by simp,by simp,by rw [List.length_map]; omega,?_,fun m hm=>?_,fun ρ hx=>⟨?_,fun i b hb=>?_⟩⟩
  ·simp only [List.all_cons,List.all_map,ABlk.own,Bool.not_false,Bool.true_and]
   rw [List.all_eq_true]
   intro q hq
   obtain ⟨i,hi⟩:=List.mem_iff_getElem?.1 hq
   obtain ⟨ci,_,g1,_⟩:=hQ i q hi
   show (!q.2.1.own)=true
   rcases g1 with g1 | ⟨_,g1,_⟩
   ·rw [g1.own]; rfl
   ·rw [g1]; rfl
  ·refine ⟨L.map (·.1),.inr ⟨B,0,some cap,1,by rw [List.length_map,hL],fun i v hv=>⟨_,_,hm 0 _ rfl,?_⟩⟩,by simp,fun i v l hv hl=>?_⟩
   ·rw [Nat.zero_add,Nat.mul_one]
    exact cells_one hv
   ·rw [List.getElem?_map] at hv hl
    cases hq:L[i]? with
    | none=>rw [hq] at hv; cases hv
    | some q=>
     rw [hq] at hv hl
     simp only [Option.map_some,Option.some.injEq] at hv hl
     subst hv; subst hl
     obtain ⟨ci,_,g1,_⟩:=hQ i q hq
     have hb:=hm (i+1) q.2.1 (by rw [List.getElem?_cons_succ,List.getElem?_map,hq]; rfl)
     rcases g1 with g1 | ⟨g1,_,g3⟩
     ·left
      rcases g1 with ⟨k1,_,k3⟩ | ⟨cp,k1,⟨_,k3⟩ | k2⟩
      ·exact .inl ⟨k1,k3⟩
      ·rw [k3] at k1 ⊢
       exact .inr ⟨_,_,_,_,k1,fun i x hx=>by simp at hx⟩
      ·rw [k2] at hb
       exact .inr ⟨_,_,_,_,k1,fun i x hx=>⟨_,_,hb,flat_cells iC1 1 (fun _=>rfl) hx⟩⟩
     ·exact .inr ⟨g1,g3⟩
  ·simp only [VR]
   exact ⟨_,cap,hx 0 _ rfl,rfl,h1,h2,rfl⟩
  ·match i with
   | 0=>
    cases hb
    refine ⟨_,rfl,rc,te,fz,hh,?_,(fun h=>by cases h),?_⟩
    ·rw [List.length_map,hL]
     have elen:rc.toList.length=rc.size:=Array.length_toList
     apply VRs.of_get
     ·rw [List.length_take,List.length_drop,List.length_map,elen,hL]; dsimp only; omega
     ·intro i v r hv hr
      rw [List.getElem?_map] at hv
      cases hq:L[i]? with
      | none=>rw [hq] at hv; cases hv
      | some q=>
       rw [hq] at hv
       simp only [Option.map_some,Option.some.injEq] at hv
       subst hv
       obtain ⟨ci,c1,_,c3⟩:=hQ i q hq
       have hlt:=(List.getElem?_eq_some_iff.1 hq).1
       rw [List.getElem?_take,if_pos (by omega),List.getElem?_drop,c1] at hr
       cases hr
       exact (c3 ρ (hx (i+1) _ (by rw [List.getElem?_cons_succ,List.getElem?_map,hq]; rfl))).1
    ·simp only [List.length_map,hL]; omega
   | i+1=>
    rw [List.getElem?_cons_succ,List.getElem?_map] at hb
    cases hq:L[i]? with
    | none=>rw [hq] at hb; cases hb
    | some q=>
     rw [hq] at hb
     simp only [Option.map_some,Option.some.injEq] at hb
     subst hb
     refine ⟨q.2.2.1,by rw [List.getElem?_cons_succ,List.getElem?_map,hq]; rfl,?_⟩
     obtain ⟨ci,_,_,c3⟩:=hQ i q hq
     exact (c3 ρ (hx (i+1) _ (by rw [List.getElem?_cons_succ,List.getElem?_map,hq]; rfl))).2
theorem spot_of {r:Reach} {b0:Nat} {u:TypeId} {a:Addr} {l c:Nat} (h:Cell.okWide P w r b0 u (.slice (some a) l c)):a.spot=none:=by
 unfold Cell.okWide at h
 split at h <;> try simp_all
 unfold Cell.ok at h
 split at h <;> try simp_all
 exact h.2.2.2.1
def slOk (P:Program) (t:TypeId) (ks:List (Option IntKind)):Bool:=P.cellsOf t == 1&&match P.underlying t with
 | some (.slice e)=>decide (keF P 8 e=some ks)&&P.cellsOf e == ks.length
 | _=>false
def inOk (P:Program) (t:TypeId):Bool:=P.cellsOf t == 1&&match P.underlying t with
 | some (.int .i64)=>true
 | _=>false
def asOk (P:Program) (t:TypeId):Bool:=P.cellsOf t == 1&&match P.underlying t with
 | some (.slice e)=>P.cellsOf e == 1&&match P.underlying e with
  | some (.slice f)=>inOk P f
  | _=>false
 | _=>false
def imgOk (P:Program) (t:TypeId):Bool:=P.cellsOf t == 8&&match P.underlying t with
 | some (.struct fs)=>match fs.toList.map fun f=>(f.offset,f.type) with
  | [(0,a),(1,b),(2,c),(3,d),(4,e),(5,f),(6,g),(7,h)]=>
   slOk P a [some .i64,some .i64,some .i64,some .i64]&&(slOk P b [some .i64,some .i64,some .i64]&&(slOk P c [some .i64,some .i64,some .i64]&&(inOk P d&&(slOk P e [some .u32]&&(slOk P f [none,none]&&(inOk P g&&asOk P h))))))
  | _=>false
 | _=>false
theorem slOk_inv {t:TypeId} {ks:List (Option IntKind)} (h:slOk P t ks=true):P.cellsOf t=1∧∃ e,P.underlying t=some (.slice e)∧keF P 8 e=some ks∧P.cellsOf e=ks.length:=by
 unfold slOk at h
 simp only [Bool.and_eq_true,beq_iff_eq] at h
 refine ⟨h.1,?_⟩
 have h2:=h.2
 split at h2
 ·rename_i e he
  simp only [Bool.and_eq_true,decide_eq_true_eq,beq_iff_eq] at h2
  exact ⟨e,he,h2⟩
 ·cases h2
theorem inOk_inv {t:TypeId} (h:inOk P t=true):P.cellsOf t=1∧P.underlying t=some (.int .i64):=by
 unfold inOk at h
 simp only [Bool.and_eq_true,beq_iff_eq] at h
 refine ⟨h.1,?_⟩
 have h2:=h.2
 split at h2
 ·assumption
 ·cases h2
theorem asOk_inv {t:TypeId} (h:asOk P t=true):P.cellsOf t=1∧∃ e f,P.underlying t=some (.slice e)∧P.underlying e=some (.slice f)∧P.underlying f=some (.int .i64)∧P.cellsOf e=1∧P.cellsOf f=1:=by
 unfold asOk at h
 simp only [Bool.and_eq_true,beq_iff_eq] at h
 refine ⟨h.1,?_⟩
 have h2:=h.2
 split at h2
 ·rename_i e he
  simp only [Bool.and_eq_true,beq_iff_eq] at h2
  have h3:=h2.2
  split at h3
  ·rename_i f hf
   obtain ⟨h4,h5⟩:=inOk_inv h3
   exact ⟨e,f,he,hf,h5,h2.1,h4⟩
  ·cases h3
 ·cases h2
theorem trod_lits {e:TypeId} {cs:List Value} {fl:Nat} {y:DataW H×List MemPlace} {ks:List (Option IntKind)} (hk:keF P 8 e=some ks) (h:DataW.trod enc P w 0 (fun _=>true) held fl e cs=some y):Lits ks cs:=keF_ok 8 fl e cs y ks h hk
theorem rs_arg {α:Type} {f:α→List AV} {c B:Nat} (hf:∀ x,(f x).length=c) {m:Mem} {v:AV} {b:ABlk} {l:List α} (h:sliceArg f c B v b l) (hm:m.get B=some b):RS f c m v l:=by
 rcases h with ⟨rfl,_,rfl⟩ | ⟨cap,rfl,⟨_,rfl⟩ | rfl⟩
 ·exact .inl ⟨rfl,rfl⟩
 ·exact .inr ⟨B,0,some cap,c,rfl,fun i x hx=>by cases hx⟩
 ·exact .inr ⟨B,0,some cap,c,rfl,fun i x hx=>⟨_,_,hm,flat_cells f c hf hx⟩⟩
theorem trod_struct {t:TypeId} {fs:Array Field} {fuel:Nat} {cs:List Value} {x:DataW H×List MemPlace} (hu:P.underlying t=some (.struct fs)) (h:DataW.trod enc P w 0 (fun _=>true) held (fuel+1) t cs=some x):
  ∃ xs,cs.length=P.cellsOf t∧(fs.toList.mapM fun f=>DataW.trod enc P w 0 (fun _=>true) held fuel f.type ((cs.drop f.offset).take (P.cellsOf f.type)))=some xs:=by
 unfold DataW.trod at h
 rw [hu] at h
 split at h <;> simp_all
 obtain ⟨_,xs,h1,_⟩:=h
 exact ⟨xs,h1⟩
def U32s (l:List Int):Prop:=∀ x∈l,0≤x∧x≤4294967295
theorem image_arg {t:TypeId} {v:Value} {d:DataW H} {p:List MemPlace} (h:DataW.Trod enc P w 0 (fun _=>true) held t v d p) {r:Reach} {b0:Nat} (hval:Value.okWide P w r b0 t v) (hi:imgOk P t=true) (B:Nat):
  ∃ (I:ImV) (M:Img) (bs:List ABlk) (xs:List At),bs.length=6+M.atoms.length∧xs.length=bs.length∧M.atoms.length≤maxLen∧bs.all (fun b=>!b.own)=true∧U32s M.init∧CapS I.c 4∧
   (∀ m:Mem,(∀ (i:Nat) (b:ABlk),bs[i]?=some b→m.get (B+i)=some b)→IM m I M)∧
   ∀ ρ:Rho,(∀ (i:Nat) (x:At),xs[i]?=some x→ρ[B+i]?=some x)→VR ρ (.agg (ic I M)) v∧∀ (i:Nat) (b:ABlk),bs[i]?=some b→∃ x,xs[i]?=some x∧BR ρ x w b:=by
 unfold imgOk at hi
 rw [Bool.and_eq_true,beq_iff_eq] at hi
 obtain ⟨i0,hi⟩:=hi
 split at hi
 rotate_left
 ·cases hi
 rename_i fs hu
 split at hi
 rotate_left
 ·cases hi
 rename_i ta tb tc td te tf tg th hfs
 simp only [Bool.and_eq_true] at hi
 obtain ⟨ia,ib,ic,id,ie,iff,ig,ih⟩:=hi
 obtain ⟨a1,a2,a3,a4,a5⟩:=slOk_inv ia
 obtain ⟨b1,b2,b3,b4,b5⟩:=slOk_inv ib
 obtain ⟨c1,c2,c3,c4,c5⟩:=slOk_inv ic
 obtain ⟨d1,d2⟩:=inOk_inv id
 obtain ⟨e1,e2,e3,e4,e5⟩:=slOk_inv ie
 obtain ⟨f1,f2,f3,f4,f5⟩:=slOk_inv iff
 obtain ⟨g1,g2⟩:=inOk_inv ig
 obtain ⟨h1,h2,h2',h3,h4,h5,h6,h7⟩:=asOk_inv ih
 unfold Value.okWide at hval
 rw [hu] at hval
 obtain ⟨cs,rfl,hsz,_,_,_,hok⟩:=hval
 have hspot:∀ (i:Nat) (c:Value),cs.toList[i]?=some c→∀ a l q,c=.slice (some a) l q→a.spot=none:=by
  intro i c hc a l q e
  subst e
  obtain ⟨u,_,hcell⟩:=hok i _ (by rw [←Array.getElem?_toList]; exact hc)
  exact spot_of hcell
 obtain ⟨fuel,h⟩:=h
 simp only [Value.cells] at h
 cases fuel with
 | zero=>simp [DataW.trod] at h
 | succ fuel=>
 obtain ⟨xs,hlen,hx⟩:=trod_struct hu h
 have hx2:((fs.toList.map fun f=>(f.offset,f.type)).mapM fun x=>DataW.trod enc P w 0 (fun _=>true) held fuel x.2 ((cs.toList.drop x.1).take (P.cellsOf x.2)))=some xs:=by
  rw [List.mapM_map]; exact hx
 rw [hfs] at hx2
 simp only [List.mapM_cons,List.mapM_nil,Option.bind_eq_bind,Option.bind_eq_some_iff,a1,b1,c1,d1,e1,f1,g1,h1] at hx2
 obtain ⟨xa,ha,_,⟨xb,hb,_,⟨xc,hc,_,⟨xd,hd,_,⟨xe,he,_,⟨xf,hf,_,⟨xg,hg,_,⟨xh,hh,_⟩,_⟩,_⟩,_⟩,_⟩,_⟩,_⟩,_⟩:=hx2
 have sing:∀ i,∀ x,(∃ k,DataW.trod enc P w 0 (fun _=>true) held fuel k ((cs.toList.drop i).take 1)=some x∧((∃ e,P.underlying k=some (.slice e))∨P.underlying k=some (.int .i64)))→∃ c,cs.toList[i]?=some c∧(cs.toList.drop i).take 1=[c]:=by
  intro i x ⟨k,hk,hkk⟩
  cases hci:cs.toList[i]? with
  | some c=>
   obtain ⟨hl,hcv⟩:=List.getElem?_eq_some_iff.1 hci
   exact ⟨c,rfl,by rw [List.drop_eq_getElem_cons hl,hcv]; rfl⟩
  | none=>
   have:(cs.toList.drop i).take 1=[]:=by
    rw [List.drop_of_length_le (List.getElem?_eq_none_iff.1 hci)]; rfl
   rw [this] at hk
   cases fuel with
   | zero=>simp [DataW.trod] at hk
   | succ n=>
    unfold DataW.trod at hk
    rcases hkk with ⟨e,hkk⟩ | hkk <;> (rw [hkk] at hk; simp at hk)
 obtain ⟨ca,ka,la⟩:=sing 0 xa ⟨ta,ha,.inl ⟨_,a3⟩⟩
 obtain ⟨cb,kb,lb⟩:=sing 1 xb ⟨tb,hb,.inl ⟨_,b3⟩⟩
 obtain ⟨cc,kc,lc⟩:=sing 2 xc ⟨tc,hc,.inl ⟨_,c3⟩⟩
 obtain ⟨cd,kd,ld⟩:=sing 3 xd ⟨td,hd,.inr d2⟩
 obtain ⟨ce,ke,le⟩:=sing 4 xe ⟨te,he,.inl ⟨_,e3⟩⟩
 obtain ⟨cf,kf,lf⟩:=sing 5 xf ⟨tf,hf,.inl ⟨_,f3⟩⟩
 obtain ⟨cg,kg,lg⟩:=sing 6 xg ⟨tg,hg,.inr g2⟩
 obtain ⟨ch,kh,lh⟩:=sing 7 xh ⟨th,hh,.inl ⟨_,h3⟩⟩
 rw [la] at ha; rw [lb] at hb; rw [lc] at hc; rw [ld] at hd; rw [le] at he; rw [lf] at hf; rw [lg] at hg; rw [lh] at hh
 have ecs:cs.toList=[ca,cb,cc,cd,ce,cf,cg,ch]:=by
  have hl8:cs.toList.length=8:=by rw [hlen,i0]
  apply List.ext_getElem?
  intro i
  match i with
  | 0=>exact ka
  | 1=>exact kb
  | 2=>exact kc
  | 3=>exact kd
  | 4=>exact ke
  | 5=>exact kf
  | 6=>exact kg
  | 7=>exact kh
  | i+8=>rw [List.getElem?_eq_none (by omega)]; simp
 have numOf:∀ k c x,P.underlying k=some (.int .i64)→DataW.trod enc P w 0 (fun _=>true) held fuel k [c]=some x→∃ n,c=.int .i64 n:=by
  intro k c x hk hx
  have:=keF_ok 1 fuel k [c] x [some .i64] hx (by unfold keF; rw [hk])
  obtain ⟨n,rest,e,_,_⟩:=this
  simp only [List.cons.injEq] at e
  exact ⟨n,e.1⟩
 obtain ⟨nd,rfl⟩:=numOf _ _ _ d2 hd
 obtain ⟨ng,rfl⟩:=numOf _ _ _ g2 hg
 obtain ⟨va,ba,ya,la',sa,_,_,capa,ra⟩:=slice_arg2 a3 a5 (by decide) ha (hspot 0 _ ka) II.cs (fun _=>True) (fun _=>rfl) (fun cs fl y hy=>by
  obtain ⟨x,r1,rfl,_,y,r2,rfl,_,z,r3,rfl,_,t,r4,rfl,_,rfl⟩:=trod_lits a4 hy
  exact ⟨⟨x,y,z,t⟩,trivial,fun ρ=>by simp [II.cs,VRs,VR]⟩) B
 obtain ⟨vb,bb,yb,lb',sb,_,_,_,rb⟩:=slice_arg2 b3 b5 (by decide) hb (hspot 1 _ kb) FF.cs (fun _=>True) (fun _=>rfl) (fun cs fl y hy=>by
  obtain ⟨x,r1,rfl,_,y,r2,rfl,_,z,r3,rfl,_,rfl⟩:=trod_lits b4 hy
  exact ⟨⟨x,y,z⟩,trivial,fun ρ=>by simp [FF.cs,VRs,VR]⟩) (B+1)
 obtain ⟨vc,bc,yc,lc',sc,_,_,_,rc⟩:=slice_arg2 c3 c5 (by decide) hc (hspot 2 _ kc) V.c (fun _=>True) (fun _=>rfl) (fun cs fl y hy=>by
  obtain ⟨x,r1,rfl,_,y,r2,rfl,_,z,r3,rfl,_,rfl⟩:=trod_lits c4 hy
  exact ⟨⟨x,y,z⟩,trivial,fun ρ=>by simp [V.c,VRs,VR]⟩) (B+2)
 obtain ⟨ve,be,ye,le',se,ue,_,_,re⟩:=slice_arg2 e3 e5 (by decide) he (hspot 4 _ ke) u32C (fun x=>0≤x∧x≤4294967295) (fun _=>rfl) (fun cs fl y hy=>by
  obtain ⟨x,r1,rfl,hw,rfl⟩:=trod_lits e4 hy
  refine ⟨x,?_,fun ρ=>by simp [u32C,VRs,VR]⟩
  simp only [Lit.wf,Bool.and_eq_true,decide_eq_true_eq] at hw
  have h1:IntKind.u32.min=0:=by decide
  have h2:IntKind.u32.max=4294967295:=by decide
  rw [h1,h2] at hw
  exact hw) (B+3)
 obtain ⟨vf,bf,yf,lf',sf,_,_,_,rf⟩:=slice_arg2 f3 f5 (by decide) hf (hspot 5 _ kf) PT.cs (fun _=>True) (fun _=>rfl) (fun cs fl y hy=>by
  obtain ⟨x,r1,rfl,y,r2,rfl,rfl⟩:=trod_lits f4 hy
  exact ⟨(x,y),trivial,fun ρ=>by simp [PT.cs,VRs,VR]⟩) (B+4)
 obtain ⟨vh,bsh,xsh,lsh,n1,n2,n2',n3,n4,n5⟩:=atoms_arg h3 h4 h5 h6 h7 hh (hspot 7 _ kh) (B+5)
 refine ⟨⟨va,vb,vc,ve,vf,vh⟩,⟨la',lb',lc',nd,le',lf',ng,lsh⟩,ba::bb::bc::be::bf::bsh,ya::yb::yc::ye::yf::xsh,?_,?_,n2',?_,ue,capa,fun m hm=>?_,fun ρ hx=>?_⟩
 ·simp only [List.length_cons,n1]; omega
 ·simp only [List.length_cons,n1,n2]
 ·simp only [List.all_cons,sa.own,sb.own,sc.own,se.own,sf.own,n3]; rfl
 ·exact ⟨rs_arg (f:=II.cs) (c:=4) (fun _=>rfl) sa (hm 0 _ rfl),rs_arg (f:=FF.cs) (c:=3) (fun _=>rfl) sb (hm 1 _ rfl),rs_arg (f:=V.c) (c:=3) (fun _=>rfl) sc (hm 2 _ rfl),rs_arg (f:=u32C) (c:=1) (fun _=>rfl) se (hm 3 _ rfl),rs_arg (f:=PT.cs) (c:=2) (fun _=>rfl) sf (hm 4 _ rfl),
   n4 m (fun i b hb=>by have:=hm (i+5) b hb; rwa [show B+(i+5)=B+5+i by omega] at this)⟩
 ·obtain ⟨pa,qa⟩:=ra ρ (hx 0 _ rfl)
  obtain ⟨pb,qb⟩:=rb ρ (hx 1 _ rfl)
  obtain ⟨pc,qc⟩:=rc ρ (hx 2 _ rfl)
  obtain ⟨pe,qe⟩:=re ρ (hx 3 _ rfl)
  obtain ⟨pf,qf⟩:=rf ρ (hx 4 _ rfl)
  obtain ⟨ph,qh⟩:=n5 ρ (fun i x hxi=>by have:=hx (i+5) x hxi; rwa [show B+(i+5)=B+5+i by omega] at this)
  refine ⟨?_,fun i b hb=>?_⟩
  ·simp only [VR]
   refine ⟨cs,rfl,?_⟩
   rw [ecs]
   simp only [VRs,VR]
   exact ⟨_,_,rfl,pa,_,_,rfl,pb,_,_,rfl,pc,_,_,rfl,rfl,_,_,rfl,pe,_,_,rfl,pf,_,_,rfl,rfl,_,_,rfl,ph,rfl⟩
  ·match i with
   | 0=>cases hb; exact ⟨_,rfl,qa⟩
   | 1=>cases hb; exact ⟨_,rfl,qb⟩
   | 2=>cases hb; exact ⟨_,rfl,qc⟩
   | 3=>cases hb; exact ⟨_,rfl,qe⟩
   | 4=>cases hb; exact ⟨_,rfl,qf⟩
   | i+5=>exact qh i b hb
end
def IS (n0:Nat) (m:Mem) (v:AV) (l:List Int):Prop:=OS 1 n0 m v (l.map fun z=>AV.int .i64 z) l.length
theorem IS.nil (n0:Nat) (m:Mem):IS n0 m .nils []:=.inl ⟨rfl,rfl,rfl⟩
theorem IS.rs {n0:Nat} {m:Mem} {v:AV} {zs:List Int} (h:IS n0 m v zs):RS (fun x=>[AV.int .i64 x]) 1 m v zs:=by
 have e:∀ zs:List Int,(zs.flatMap fun x=>[AV.int .i64 x])=zs.map fun z=>AV.int .i64 z:=by
  intro zs
  induction zs with
  | nil=>rfl
  | cons a r ih=>rw [List.flatMap_cons,ih]; rfl
 refine OS.rs (f:=fun x=>[AV.int .i64 x]) (c:=1) (n0:=n0) (fun _=>rfl) ?_
 rw [e]
 exact h
theorem IS.re {n0:Nat} {m:Mem} {v:AV} {zs:List Int} (h:IS n0 m v zs):RE m v zs:=.inl h.rs
theorem IS.ext {n0:Nat} {m m':Mem} {v:AV} {zs:List Int} (h:IS n0 m v zs) (k:Ext m m'):IS n0 m' v zs:=by
 rcases h with h | ⟨b,h0,rfl,h1,h2⟩
 ·exact .inl h
 ·exact .inr ⟨b,h0,rfl,(k.2 b (Mem.get_lt h1)).trans h1,h2⟩
theorem IS.low {n0 n1:Nat} {m:Mem} {v:AV} {zs:List Int} (h:IS n0 m v zs) (k:n1≤n0):IS n1 m v zs:=by
 rcases h with h | ⟨b,h0,rfl,h1,h2⟩
 ·exact .inl h
 ·exact .inr ⟨b,by omega,rfl,h1,h2⟩
theorem IS.pl {n0:Nat} {m:Mem} {v:AV} {zs:List Int} (h:IS n0 m v zs):(∀ ls,AV.locIn ls v=true)∧v.isLoc=false∧AV.one v=true∧v.cells?=some [v]:=OS.plain h
theorem zer1:zerosEv [AV.int .i64 0] 1=[.int .i64 0]:=rfl
theorem push_int {n0:Nat} {m1:Mem} {v:AV} {acc:List Int} (ho:IS n0 m1 v acc) (x:Int) (hmn:m1.n+3≤2 ^ depth) (hn0:n0≤m1.n) (hal:acc.length≤1000000):
  ∃ v' m2,(∀ sn t l,appEv ⟨sn,t,l,m1.push (.cells [.int .i64 x] true)⟩ none 1 8 v (.slice m1.n 0 1 (some 1) 1)=some (v',⟨sn,t,l,m2⟩))∧IS n0 m2 v' (acc++[x])∧m1.n≤m2.n∧m2.n≤m1.n+2∧(∀ i,i < n0→m2.get i=m1.get i)∧(∀ ls,AV.locIn ls v'=true)∧v'.isLoc=false∧m1.full=false:=by
 have hf:m1.full=false:=not_full (by omega)
 obtain ⟨v',m2,ha,ho2,hn2,hk2⟩:=app_spec (ty:=none) (c:=1) (n0:=n0) (bytes:=8) (by omega) (OS.push ho (.cells [.int .i64 x] true) (by omega)) (by':=m1.n) (cp:=some 1) (e:=[.int .i64 x]) (ow:=true) (Mem.get_push_new _) rfl rfl (by rw [push_n]; omega) (by rw [push_n]; omega) (by omega) (Nat.le_trans (show acc.length+1≤1000001 by omega) (by decide))
 obtain ⟨w1,w2,w3,w4⟩:=ho2.plain
 rw [push_n] at hn2
 refine ⟨v',m2,ha,?_,by omega,by omega,fun j hj=>(hk2 j hj).trans (Mem.get_push_old _ hf (by omega)),w1,w2,hf⟩
 unfold IS
 simpa using ho2
def OX (c n0:Nat) (m:Mem) (v:AV) (cs:List AV) (n:Nat):Prop:=(v=.nils∧cs=[]∧n=0)∨∃ b cap,n0≤b∧v=.slice b 0 n cap c∧(cap=none∨cap=some n)∧m.get b=some (.cells cs true)∧cs.length=n*c
theorem OX.of {c n0:Nat} {m:Mem} {v:AV} {cs:List AV} {n:Nat} (h:OS c n0 m v cs n):OX c n0 m v cs n:=by
 rcases h with h | ⟨b,h0,h1,h2,h3⟩
 ·exact .inl h
 ·exact .inr ⟨b,none,h0,h1,.inl rfl,h2,h3⟩
theorem OX.plain {c n0:Nat} {m:Mem} {v:AV} {cs:List AV} {n:Nat} (hv:OX c n0 m v cs n):(∀ ls,AV.locIn ls v=true)∧v.isLoc=false∧AV.one v=true∧v.cells?=some [v]:=by
 rcases hv with ⟨rfl,_⟩ | ⟨b,cap,_,rfl,_⟩ <;> exact ⟨fun _=>rfl,rfl,rfl,rfl⟩
theorem OX.ext {c n0:Nat} {m m':Mem} {v:AV} {cs:List AV} {n:Nat} (h:OX c n0 m v cs n) (k:Ext m m'):OX c n0 m' v cs n:=by
 rcases h with h | ⟨b,cap,h0,rfl,hc,h1,h2⟩
 ·exact .inl h
 ·exact .inr ⟨b,cap,h0,rfl,hc,(k.2 b (Mem.get_lt h1)).trans h1,h2⟩
theorem OX.low {c n0 n1:Nat} {m:Mem} {v:AV} {cs:List AV} {n:Nat} (h:OX c n0 m v cs n) (k:n1≤n0):OX c n1 m v cs n:=by
 rcases h with h | ⟨b,cap,h0,r⟩
 ·exact .inl h
 ·exact .inr ⟨b,cap,by omega,r⟩
theorem OX.rs {α:Type} {f:α→List AV} {c n0:Nat} (hf:∀ x,(f x).length=c) {m:Mem} {v:AV} {l:List α} (h:OX c n0 m v (l.flatMap f) l.length):RS f c m v l:=by
 rcases h with ⟨rfl,_,h⟩ | ⟨b,cap,_,rfl,_,h1,h2⟩
 ·exact .inl ⟨rfl,List.length_eq_zero_iff.1 h⟩
 ·exact .inr ⟨b,0,cap,c,rfl,fun i x hx=>⟨_,_,h1,flat_cells f c hf hx⟩⟩
def IX (n0:Nat) (m:Mem) (v:AV) (l:List Int):Prop:=OX 1 n0 m v (l.map fun z=>AV.int .i64 z) l.length
theorem flat_one (zs:List Int):(zs.flatMap fun x=>[AV.int .i64 x])=zs.map fun z=>AV.int .i64 z:=by
 induction zs with
 | nil=>rfl
 | cons a r ih=>rw [List.flatMap_cons,ih]; rfl
theorem IX.rs {n0:Nat} {m:Mem} {v:AV} {zs:List Int} (h:IX n0 m v zs):RS (fun x=>[AV.int .i64 x]) 1 m v zs:=by
 refine OX.rs (f:=fun x=>[AV.int .i64 x]) (c:=1) (n0:=n0) (fun _=>rfl) ?_
 rw [flat_one]
 exact h
theorem IX.re {n0:Nat} {m:Mem} {v:AV} {zs:List Int} (h:IX n0 m v zs):RE m v zs:=.inl h.rs
theorem IX.nil (n0:Nat) (m:Mem):IX n0 m .nils []:=.inl ⟨rfl,rfl,rfl⟩
theorem ones_int (l:List Int):(l.map fun z=>AV.int .i64 z).all AV.one=true:=by
 rw [List.all_map,List.all_eq_true]
 intro x _
 rfl
theorem same_read {m m':Mem} {b o:Nat} {cs:List AV} {ow ow':Bool} {w:AV} (h1:m.get b=some (.cells cs ow)) (h2:m'.get b=some (.cells cs ow')) (h3:cellsAt cs o 1=some [w]) (hw:eqV 4 w w=true):sameRead m m' (.ptr b o) 1=true:=by
 simp only [sameRead,h1,h2,h3,eqL,hw,Bool.and_self]
theorem RE.refl {m:Mem} {w:AV} {l:List Int} (h:RE m w l):eqV 4 w w=true:=by
 rcases h with (⟨rfl,_⟩ | ⟨b,o,cap,e,rfl,_⟩) | ⟨rfl,_⟩
 ·rfl
 ·simp [eqV]
 ·rfl
end AG
