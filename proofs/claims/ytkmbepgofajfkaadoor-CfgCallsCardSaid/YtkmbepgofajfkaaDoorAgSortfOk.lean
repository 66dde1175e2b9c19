/- The abstract machine, part 30: slices.SortFunc of pairs: its contract makes it a prim. -/
import Derived.Test.YtkmbepgofajfkaaDoorAgSortf
import Derived.Test.YtkmbepgofajfkaaDoorAgSlcOk
import Derived.Test.YtkmbepgofajfkaaDoorAgClosed
import Derived.Shelf.GgSortFunc.InsertionK
namespace AG
noncomputable section
open Go Go.RowKit Go.Sort Go.Proofs
theorem clean_world {O V O' V':Nat→Prop} {w w':World} (h:Fr O V w O' V' w') (ho:∀ k,¬O k):∃ q os,w'=grow (w.drewN q) os:=by
 refine ⟨w'.drawn - w.drawn,w'.heap.extract w.heap.size w'.heap.size,?_⟩
 have hh:w'.heap=w.heap++w'.heap.extract w.heap.size w'.heap.size:=by
  apply Array.ext_getElem?
  intro i
  by_cases hi:i < w.heap.size
  ·rw [Array.getElem?_append_left hi]; exact h.keep i hi (ho i)
  ·rw [Array.getElem?_append_right (by omega),Array.getElem?_extract]
   have hs:=h.size
   by_cases h2:i < w'.heap.size
   ·rw [if_pos (by omega)]; congr 1; omega
   ·rw [if_neg (by omega)]; exact Array.getElem?_eq_none (by omega)
 have hd:=h.drawn
 have h1:=h.os; have h2:=h.tape; have h3:=h.output
 unfold grow World.drewN
 cases w'; cases w
 simp only at hh hd h1 h2 h3 ⊢
 subst h1 h2 h3
 congr 1
 omega
theorem clean_calls {P:Program} {A:Nat→Option AFn} (hA:AOk P A) {n f:Nat} {args:List AV} {m':Mem} {k:IntKind} {z:Int} (hG:P.globals.size≤2 ^ depth)
  (h:run A n f args (memOf (List.replicate P.globals.size .dead))=some (.int k z,m')) {rargs:Array Value} {w:World}
  (ha:∀ ρ,VRs ρ args rargs.toList):Calls P f rargs w fun e w'=>e=.returned (.int k z)∧∃ q os,w'=grow (w.drewN q) os:=by
 let ρ:Rho:=(List.range P.globals.size).map fun g=>(⟨g,0,0,0⟩:At)
 have hm:MR P ρ (memOf (List.replicate P.globals.size .dead)) w:=by
  refine MR.of_list (by simp [ρ]) (by simpa using hG) (fun g hg=>⟨⟨g,0,0,0⟩,by simp [ρ,hg],rfl,rfl,rfl⟩) (fun i b hb=>?_) (fun b hb=>?_)
  ·have hi:=(List.getElem?_eq_some_iff.1 hb).1
   have:b=.dead:=List.eq_of_mem_replicate (List.mem_of_getElem? hb)
   subst this
   exact ⟨⟨i,0,0,0⟩,by simp at hi; simp [ρ,hi],trivial⟩
  ·have:b=.dead:=List.eq_of_mem_replicate hb
   subst this; rfl
 refine (run_ok hA h hm (ha ρ)).mono ?_
 rintro e w' ⟨r,ρ',rfl,hv,hs⟩
 simp only [VR] at hv
 subst hv
 refine ⟨rfl,clean_world hs.fr (fun k hk=>?_)⟩
 obtain ⟨i,b,x,h1,h2,h3⟩:=hk
 have:b.own=false:=by
  have h4:=foldl_push (List.replicate P.globals.size .dead) { n:=0,t:=.nil } (by simpa using hG)
  obtain ⟨_,h5⟩:=h4
  simp only [Nat.zero_add,Nat.not_lt_zero,if_false,Nat.sub_zero] at h5
  unfold memOf at h1
  rw [h5] at h1
  have:b=.dead:=List.eq_of_mem_replicate (List.mem_of_getElem? h1)
  subst this; rfl
 rw [this] at h2; cases h2
def cmpI (x y:Int):Int:=if x < y then -1 else if y < x then 1 else 0
def cfP (p q:Int×Int):Int:=if cmpI p.1 q.1=0 then cmpI p.2 q.2 else cmpI p.1 q.1
def ltC {α:Type} (cf:α→α→Int) (x y:α):Bool:=decide (cf x y < 0)
def encP (p:Int×Int):List Value:=[.int .i64 p.1,.int .i64 p.2]
theorem cfP_iff (x y:Int×Int):ltC cfP x y=decide (x.1 < y.1∨x.1=y.1∧x.2 < y.2):=by
 unfold ltC cfP cmpI
 by_cases h1:x.1 < y.1
 ·simp [h1]
 ·by_cases h2:y.1 < x.1
  ·have h3:¬x.1=y.1:=by omega
   simp [h1,h2,h3]
  ·have h3:x.1=y.1:=by omega
   by_cases h4:x.2 < y.2
   ·simp [h3,h4]
   ·by_cases h5:y.2 < x.2 <;> simp [h3,h4,h5]
theorem cfP_swo:SWO (ltC cfP):=by
 constructor
 ·intro x; rw [cfP_iff]; simp
 ·intro x y z; rw [cfP_iff,cfP_iff,cfP_iff]; simp only [decide_eq_true_eq]; omega
 ·intro x y z; rw [cfP_iff,cfP_iff,cfP_iff]; simp only [decide_eq_false_iff_not]; omega
theorem cfP_tot:∀ x y,(ltC cfP) x y=false→(ltC cfP) y x=false→x=y:=by
 intro ⟨a,b⟩ ⟨c,d⟩; rw [cfP_iff,cfP_iff]; simp only [decide_eq_false_iff_not]; intro h1 h2
 congr 1 <;> omega
theorem cfP_lex:(fun x y=>!(ltC cfP) y x)=lexle:=by
 funext ⟨a,b⟩ ⟨c,d⟩
 rw [cfP_iff]
 unfold lexle
 rw [Bool.eq_iff_iff]
 simp only [Bool.not_eq_true',decide_eq_false_iff_not,Bool.or_eq_true,decide_eq_true_eq,Bool.and_eq_true,beq_iff_eq]
 omega
theorem getD_flatP:∀ (ps:List (Int×Int)) (t:Nat),t < 2*ps.length→(flatP ps)[t]?=(ps[t / 2]?).map fun p=>if t % 2=0 then p.1 else p.2
 | [],t,h=>by simp at h
 | p::r,t,h=>by
  unfold flatP
  match t,h with
  | 0,_=>rfl
  | 1,_=>rfl
  | t+2,h=>
   rw [List.getElem?_cons_succ,List.getElem?_cons_succ,getD_flatP r t (by simp at h; omega),show (t+2) / 2=t / 2+1 by omega,List.getElem?_cons_succ,show (t+2) % 2=t % 2 by omega]
theorem flatK_enc (ps:List (Int×Int)):flatK encP 2 ps.toArray=((flatP ps).map (Value.int .i64)).toArray:=by
 apply Array.ext_getElem?
 intro t
 unfold flatK
 by_cases ht:t < 2*ps.length
 ·have h1:t / 2 < ps.length:=by omega
  have e1:=getD_flatP ps t ht
  have e2:ps.toArray[t / 2]! = ps[t / 2]:=by
   rw [getElem!_pos _ _ (by simpa using h1)]; simp
  have R:(((flatP ps).map (Value.int .i64)).toArray)[t]?=((ps[t / 2]?).map fun p=>if t % 2=0 then p.1 else p.2).map (Value.int .i64):=by
   rw [List.getElem?_toArray,List.getElem?_map,e1]
  have ht2:t < ps.toArray.size*2:=by simp; omega
  rw [R,Array.getElem?_map,Array.getElem?_range,if_pos ht2,List.getElem?_eq_getElem h1]
  simp only [Option.map_some,e2]
  have h2:t % 2=0∨t % 2=1:=by omega
  rcases h2 with h2 | h2 <;> simp [h2,encP]
 ·rw [Array.getElem?_eq_none (by simp; omega),Array.getElem?_eq_none (by simp [flatP_len]; omega)]
theorem holds_map {w:World} {blk off:Nat} {zs:List Int} (h:Holds (Value.int .i64) w blk off zs.toArray):Holds id w blk off (zs.map (Value.int .i64)).toArray:=by
 intro j hj
 have hj':j < zs.length:=by simpa using hj
 obtain ⟨h1,h2⟩:=h j (by simpa using hj')
 refine ⟨?_,h2⟩
 rw [h1,getElem!_pos _ j (by simpa using hj'),getElem!_pos _ j (by simpa using hj')]
 simp
theorem putRow_map {w:World} {blk off:Nat} {zs:List Int}:putRow id w blk off (zs.map (Value.int .i64)).toArray=putRow (Value.int .i64) w blk off zs.toArray:=by
 unfold putRow
 congr 1
 funext c
 unfold putCells
 congr 1
 funext k x
 simp only [List.size_toArray,List.length_map]
 split
 ·rename_i hk
  rw [getElem!_pos _ _ (by simp; omega),getElem!_pos _ _ (by simp; omega)]
  simp
 ·rfl
theorem flat_pairs:∀ (k:Nat) (l:List Int),l.length=2*k→flatP (pairsOf l)=l∧(pairsOf l).length=k
 | 0,l,h=>by cases l with
  | nil=>exact ⟨rfl,rfl⟩
  | cons _ _=>simp at h
 | k+1,l,h=>by
  match l,h with
  | x::y::r,h=>
   obtain ⟨h1,h2⟩:=flat_pairs k r (by simp at h; omega)
   simp [pairsOf,flatP,h1,h2]
theorem sortf_ok {P:Program} {f g:Nat} {fn:Func} (hf:P.funcs[f]?=some fn) (hn:fn.name≠ "runtime.NumGoroutine") (hb:fn.body.isSome=true)
  (hc:∀ (blk off cap:Nat) (ps:List (Int×Int)) (w:World),(∀ (m:Nat) (os:Array Obj) (dk:Array (Int×Int)),dk.size=ps.toArray.size→∀ x y:Int×Int,
    Calls P g (#[.agg (encP x).toArray,.agg (encP y).toArray]++#[]) (sortWorldK encP 2 w blk off m dk os) fun e w'=>e=.returned (.int .i64 (cfP x y))∧∃ q os',w'=grow ((sortWorldK encP 2 w blk off m dk os).drewN q) os')→
   HoldsK encP 2 w blk off ps.toArray→blk < w.heap.size→ps.toArray.size < 4611686018427387904→Calls P f #[.slice (some ⟨blk,off,none⟩) ps.toArray.size cap,.func (.func g) #[] #[]] w fun e w'=>e=.returned (.tuple #[])∧∃ n os,w'=sortWorldK encP 2 w blk off n (ps.toArray.toList.mergeSort fun x y=>!(ltC cfP) y x).toArray os)
  (h0:∀ (p:Option Addr) (cap:Nat) (fv:Value) (w:World),Calls P f #[.slice p 0 cap,fv] w fun e w'=>e=.returned (.tuple #[])∧w'=w)
  (hcmp:∀ (x y:Int×Int) (w:World),Calls P g #[.agg (encP x).toArray,.agg (encP y).toArray] w fun e w'=>e=.returned (.int .i64 (cfP x y))∧∃ q os,w'=grow (w.drewN q) os):PrimOk P f (sortfEv g):=by
 intro call _ args m v m' h
 refine ⟨⟨fn,hf,hn,hb⟩,fun ρ rargs w hm ha=>?_⟩
 unfold sortfEv at h
 split at h
 ·split at h
  rotate_left
  ·cases h
  simp only [Option.some.injEq,Prod.mk.injEq] at h
  obtain ⟨rfl,rfl⟩:=h
  simp only [VRs,VR] at ha
  obtain ⟨r,rest,e1,rfl,r2,rest2,rfl,hr2,rfl⟩:=ha
  have e2:rargs=#[.slice none 0 0,r2]:=Array.toList_inj.1 e1
  subst e2
  refine (h0 none 0 r2 w).mono ?_
  rintro e w' ⟨rfl,rfl⟩
  exact ⟨_,ρ,rfl,by simp only [VR]; exact ⟨_,rfl,by simp [VRs]⟩,MStep.refl hm⟩
 ·rename_i b o n cap e f'
  split at h
  rotate_left
  ·cases h
  rename_i hfg
  obtain ⟨rfl,rfl⟩:=hfg
  simp only [VRs,VR] at ha
  obtain ⟨r,rest,e1,⟨x,C,hx,rfl,hnc,hcm,_⟩,r2,rest2,rfl,⟨rs,rfl,hrs⟩,rfl⟩:=ha
  have hrs':rs=#[]:=Array.toList_inj.1 hrs
  subst hrs'
  have e2:rargs=#[.slice (some ⟨x.blk,x.off+o,none⟩) n C,.func (.func f') #[] #[]]:=Array.toList_inj.1 e1
  subst e2
  split at h
  ·rename_i hz
   simp only [Option.some.injEq,Prod.mk.injEq] at h
   obtain ⟨rfl,rfl⟩:=h
   subst hz
   refine (h0 _ C _ w).mono ?_
   rintro e w' ⟨rfl,rfl⟩
   exact ⟨_,ρ,rfl,by simp only [VR]; exact ⟨_,rfl,by simp [VRs]⟩,MStep.refl hm⟩
  ·split at h
   ·cases h
   rename_i hn0 hbig
   split at h
   rotate_left
   ·cases h
   rename_i c zs hown
   simp only [Option.some.injEq,Prod.mk.injEq] at h
   obtain ⟨rfl,rfl⟩:=h
   obtain ⟨hg,hzl,hle,hsub,rc,e',g1,g5,g6,g4,g2,hH⟩:=own_holds hm hown hx
   have hlt:x.blk < w.heap.size:=(Array.getElem?_eq_some_iff.1 g1).1
   obtain ⟨hfl,hpl⟩:=flat_pairs n zs hzl
   have hcc:=hc x.blk (x.off+o) C (pairsOf zs) w (fun m os dk _ p q=>by simpa using hcmp p q _) (by
    unfold HoldsK; rw [flatK_enc,hfl]; exact holds_map hH) hlt (by simp; omega)
   rw [List.size_toArray,hpl] at hcc
   refine hcc.mono ?_
   rintro e w' ⟨rfl,k,os,rfl⟩
   have s1:=ahead_step hm k
   have s2:=own_put s1.mr hown hx (ys:=flatP (sortP (pairsOf zs))) (by rw [flatP_len,sortP_len,hpl])
   refine ⟨_,ρ,rfl,by simp only [VR]; exact ⟨_,rfl,by simp [VRs]⟩,s1.trans (s2.trans ?_)⟩
   have e3:sortWorldK encP 2 w x.blk (x.off+o) k ((pairsOf zs).toArray.toList.mergeSort fun x y=>!(ltC cfP) y x).toArray os=grow (putRow (Value.int .i64) (Go.Sort.ahead w k) x.blk (x.off+o) (flatP (sortP (pairsOf zs))).toArray) os:=by
    unfold sortWorldK putRowK
    rw [cfP_lex,flatK_enc,putRow_map]
    rfl
   rw [e3]
   exact grow_step s2.mr os
 ·cases h
end
end AG
