/- What the functions that read images and paths compute, and the laws of that. -/
import Derived.Test.YtkmbepgofajfkaaDoorAgPk
namespace AG
open Go Go.Proofs.YtkmbepgofajfkaaDoor
set_option maxRecDepth 100000
set_option maxHeartbeats 4000000
theorem whites_le1:∀ (s t:List Nat),s.length=t.length→(∀ i:Nat,t[i]?=some 0→s[i]?=some 0)→whites t≤whites s
 | [],[],_,_=>Nat.le_refl _
 | x::s,y::t,h,hi=>by
  have h1:=whites_le1 s t (by simpa using h) (fun i hh=>by simpa using hi (i+1) (by simpa using hh))
  have h0:=hi 0
  unfold whites at h1 ⊢
  rw [List.filter_cons,List.filter_cons]
  by_cases hy:y=0
  ·subst hy
   have hx:x=0:=by simpa using h0 rfl
   subst hx
   simpa using h1
  ·have:(y == 0)=false:=by simpa using hy
   rw [this]
   simp only [Bool.false_eq_true,if_false]
   split
   ·rw [List.length_cons]; omega
   ·exact h1
 | [],_::_,h,_=>by simp at h
 | _::_,[],h,_=>by simp at h
theorem whites_set1:∀ (s:List Nat) (a:Nat),s[a]?=some 0→whites (s.set a 1)+1=whites s
 | [],a,h=>by simp at h
 | x::s,0,h=>by
  have:x=0:=by simpa using h
  subst this
  rfl
 | x::s,a+1,h=>by
  have h1:=whites_set1 s a (by simpa using h)
  unfold whites at h1 ⊢
  rw [List.set_cons_succ,List.filter_cons,List.filter_cons]
  cases x == 0
  ·simp only [Bool.false_eq_true,if_false]; exact h1
  ·simp only [if_true,List.length_cons]; omega
structure Dw (nx:Nat→List Int) (s s':DS) (new:List Int) (eb:List (Int×Int)) (g:Option Nat):Prop where
 hl:s'.l=s.l++new
 hb:s'.b=s.b++eb
 len:s'.c.length=s.c.length
 inr:∀ x∈new,0≤x
 nd:new.Nodup
 wh:∀ x∈new,s.c[x.toNat]?=some 0
 bl:∀ x∈new,s'.c[x.toNat]?=some 2
 un:∀ i:Nat,(i:Int)∉new→s'.c[i]?=s.c[i]?
 cl:∀ u∈new,∀ v∈nx u.toNat,s'.c[v.toNat]?≠some 0
 src:∀ e∈eb,e.1∈new∨∃ a,g=some a∧e.1=(a:Int)
 ed:∀ u∈new,∀ v∈nx u.toNat,((u,v)∈eb↔s.c[v.toNat]?=some 1∨(v∈new∧new.idxOf u≤new.idxOf v))
theorem Dw.refl (nx:Nat→List Int) (s:DS) (g:Option Nat):Dw nx s s [] [] g where
 hl:=(List.append_nil _).symm
 hb:=(List.append_nil _).symm
 len:=rfl
 inr:=fun _ h=>by cases h
 nd:=List.nodup_nil
 wh:=fun _ h=>by cases h
 bl:=fun _ h=>by cases h
 un:=fun _ _=>rfl
 cl:=fun _ h=>by cases h
 src:=fun _ h=>by cases h
 ed:=fun _ h=>by cases h
theorem Dw.un' {nx:Nat→List Int} {s s':DS} {new:List Int} {eb:List (Int×Int)} {g:Option Nat} (h:Dw nx s s' new eb g) {x:Int} (hx:0≤x) (hn:x∉new):s'.c[x.toNat]?=s.c[x.toNat]?:=
 h.un x.toNat (by rw [Int.toNat_of_nonneg hx]; exact hn)
theorem Dw.grey {nx:Nat→List Int} {s s':DS} {new:List Int} {eb:List (Int×Int)} {g:Option Nat} (h:Dw nx s s' new eb g) {x:Int} (hx:0≤x):s'.c[x.toNat]?=some 1↔s.c[x.toNat]?=some 1:=by
 by_cases hn:x∈new
 ·rw [h.bl x hn,h.wh x hn]; simp
 ·rw [h.un' hx hn]
theorem Dw.white {nx:Nat→List Int} {s s':DS} {new:List Int} {eb:List (Int×Int)} {g:Option Nat} (h:Dw nx s s' new eb g) (i:Nat) (hi:s'.c[i]?=some 0):s.c[i]?=some 0:=by
 by_cases hn:(i:Int)∈new
 ·have:=h.bl _ hn; rw [Int.toNat_natCast,hi] at this; simp at this
 ·rw [←h.un i hn]; exact hi
theorem Dw.trans {nx:Nat→List Int} (hnx:∀ a,∀ v∈nx a,0≤v) {s s1 s2:DS} {n1 n2:List Int} {e1 e2:List (Int×Int)} {g:Option Nat} (h:Dw nx s s1 n1 e1 g) (k:Dw nx s1 s2 n2 e2 g) (hg:∀ a,g=some a→s.c[a]?=some 1):Dw nx s s2 (n1++n2) (e1++e2) g:=by
 have dis:∀ x∈n1,x∉n2:=fun x h1 h2=>by
  have a:=h.bl x h1; rw [k.wh x h2] at a; simp at a
 refine ⟨by rw [k.hl,h.hl,List.append_assoc],by rw [k.hb,h.hb,List.append_assoc],k.len.trans h.len,?_,?_,?_,?_,?_,?_,?_,?_⟩
 ·intro x hx; rcases List.mem_append.1 hx with hx | hx
  ·exact h.inr x hx
  ·exact k.inr x hx
 ·rw [List.nodup_append]
  exact ⟨h.nd,k.nd,fun x h1 y h2 e=>dis x h1 (e▸h2)⟩
 ·intro x hx; rcases List.mem_append.1 hx with hx | hx
  ·exact h.wh x hx
  ·have a:=k.wh x hx
   rw [h.un' (k.inr x hx) (fun h1=>dis x h1 hx)] at a
   exact a
 ·intro x hx; rcases List.mem_append.1 hx with hx | hx
  ·rw [k.un' (h.inr x hx) (dis x hx)]; exact h.bl x hx
  ·exact k.bl x hx
 ·intro i hi
  rw [List.mem_append,not_or] at hi
  rw [k.un i hi.2,h.un i hi.1]
 ·intro u hu v hv; rcases List.mem_append.1 hu with hu | hu
  ·by_cases hn:v∈n2
   ·rw [k.bl v hn]; simp
   ·rw [k.un' (hnx _ v hv) hn]; exact h.cl u hu v hv
  ·exact k.cl u hu v hv
 ·intro e he; rcases List.mem_append.1 he with he | he
  ·rcases h.src e he with h1 | h1
   ·exact .inl (List.mem_append_left _ h1)
   ·exact .inr h1
  ·rcases k.src e he with h1 | h1
   ·exact .inl (List.mem_append_right _ h1)
   ·exact .inr h1
 ·intro u hu v hv
  have hv0:=hnx _ v hv
  rcases List.mem_append.1 hu with hu | hu
  ·have no2:(u,v)∉e2:=fun hm=>by
    rcases k.src _ hm with h1 | ⟨a,h1,h2⟩
    ·exact dis u hu h1
    ·have a1:=h.wh u hu
     have a2:=hg a h1
     have e:u.toNat=a:=by dsimp only at h2; omega
     rw [e,a2] at a1; simp at a1
   rw [List.mem_append,or_iff_left no2,h.ed u hu v hv,List.idxOf_append,if_pos hu]
   constructor
   ·rintro (h1 | ⟨h1,h2⟩)
    ·exact .inl h1
    ·exact .inr ⟨List.mem_append_left _ h1,by rw [List.idxOf_append,if_pos h1]; exact h2⟩
   ·rintro (h1 | ⟨h1,h2⟩)
    ·exact .inl h1
    ·rcases List.mem_append.1 h1 with h3 | h3
     ·rw [List.idxOf_append,if_pos h3] at h2
      exact .inr ⟨h3,h2⟩
     ·exact absurd (k.wh v h3) (h.cl u hu v hv)
  ·have hu1:u∉n1:=fun h1=>dis u h1 hu
   have no1:(u,v)∉e1:=fun hm=>by
    rcases h.src _ hm with h1 | ⟨a,h1,h2⟩
    ·exact hu1 h1
    ·have a1:=k.wh u hu
     have e:u.toNat=a:=by dsimp only at h2; omega
     have a2:=(h.grey (k.inr u hu)).2 (by rw [e]; exact hg a h1)
     rw [a2] at a1; simp at a1
   rw [List.mem_append,or_iff_right no1,k.ed u hu v hv,h.grey hv0,List.idxOf_append,if_neg hu1]
   constructor
   ·rintro (h1 | ⟨h1,h2⟩)
    ·exact .inl h1
    ·exact .inr ⟨List.mem_append_right _ h1,by rw [List.idxOf_append,if_neg (fun h3=>dis v h3 h1)]; omega⟩
   ·rintro (h1 | ⟨h1,h2⟩)
    ·exact .inl h1
    ·by_cases h3:v∈n1
     ·rw [List.idxOf_append,if_pos h3] at h2
      have:=List.idxOf_lt_length_of_mem h3
      omega
     ·rw [List.idxOf_append,if_neg h3] at h2
      exact .inr ⟨(List.mem_append.1 h1).resolve_left h3,by omega⟩
theorem Dw.any {nx:Nat→List Int} {s s':DS} {new:List Int} {eb:List (Int×Int)} (h:Dw nx s s' new eb none) (g:Option Nat):Dw nx s s' new eb g:=
 ⟨h.hl,h.hb,h.len,h.inr,h.nd,h.wh,h.bl,h.un,h.cl,fun e he=>(h.src e he).imp id (fun ⟨a,h1,_⟩=>by cases h1),h.ed⟩
theorem fold_dw (nx:Nat→List Int) (hnx:∀ a,∀ v∈nx a,0≤v) (k:Nat) (rec:∀ (a:Nat) (s:DS),s.c[a]?=some 0→whites s.c≤k→∃ n0 eb,Dw nx s (visP nx k a s) (n0++[(a:Int)]) eb none) (a:Nat) (s:DS) (ha:s.c[a]?=some 1) (hw:whites s.c≤k):
  ∀ ls:List Int,(∀ v∈ls,0≤v)→∃ new eb,Dw nx s (ls.foldr (visStep (visP nx k) a) s) new eb (some a)∧(∀ v,((a:Int),v)∈eb↔v∈ls∧s.c[v.toNat]?=some 1)∧∀ v∈ls,(ls.foldr (visStep (visP nx k) a) s).c[v.toNat]?≠some 0
 | [],_=>⟨[],[],Dw.refl nx s _,by simp,by simp⟩
 | x::r,hr=>by
  obtain ⟨n1,e1,h1,h2,h3⟩:=fold_dw nx hnx k rec a s ha hw r (fun v hv=>hr v (List.mem_cons_of_mem _ hv))
  have hx:=hr x List.mem_cons_self
  rw [List.foldr_cons]
  generalize r.foldr (visStep (visP nx k) a) s=t at*
  have gg:∀ b,some a=some b→s.c[b]?=some 1:=fun b e=>by cases e; exact ha
  have hat:t.c[a]?=some 1:=by
   have:=(h1.grey (x:=(a:Int)) (by omega)).2 (by rw [Int.toNat_natCast]; exact ha)
   rwa [Int.toNat_natCast] at this
  unfold visStep
  split
  ·rename_i h0
   obtain ⟨n0,e0,k1⟩:=rec x.toNat t h0 (Nat.le_trans (whites_le1 _ _ h1.len.symm (fun i hi=>h1.white i hi)) hw)
   refine ⟨n1++(n0++[(x.toNat:Int)]),e1++e0,h1.trans hnx (k1.any _) gg,fun v=>?_,fun v hv=>?_⟩
   ·have no:((a:Int),v)∉e0:=fun hm=>by
     rcases k1.src _ hm with q | ⟨b,q,_⟩
     ·have:=k1.wh _ q
      rw [Int.toNat_natCast,hat] at this; simp at this
     ·cases q
    rw [List.mem_append,or_iff_left no,h2 v,List.mem_cons]
    constructor
    ·rintro ⟨q1,q2⟩; exact ⟨.inr q1,q2⟩
    ·rintro ⟨q1 | q1,q2⟩
     ·subst q1
      have:=(h1.grey hx).2 q2
      rw [h0] at this; simp at this
     ·exact ⟨q1,q2⟩
   ·rcases List.mem_cons.1 hv with q | q
    ·subst q
     have:=k1.bl ((v.toNat:Nat):Int) (by simp)
     rw [Int.toNat_natCast] at this
     rw [this]; simp
    ·by_cases hn:v∈n0++[(x.toNat:Int)]
     ·rw [k1.bl v hn]; simp
     ·rw [k1.un' (hr v hv) hn]; exact h3 v q
  ·rename_i h0
   refine ⟨n1,e1++[((a:Int),x)],⟨h1.hl,by dsimp only; rw [h1.hb,List.append_assoc],h1.len,h1.inr,h1.nd,h1.wh,h1.bl,h1.un,h1.cl,fun e he=>?_,fun u hu v hv=>?_⟩,fun v=>?_,fun v hv=>?_⟩
   ·rcases List.mem_append.1 he with q | q
    ·exact h1.src e q
    ·exact .inr ⟨a,rfl,by rw [List.mem_singleton.1 q]⟩
   ·have no:(u,v)∉[((a:Int),x)]:=fun hm=>by
     have e:=congrArg Prod.fst (List.mem_singleton.1 hm)
     dsimp only at e
     have:=h1.wh u hu
     rw [e,Int.toNat_natCast,ha] at this; simp at this
    rw [List.mem_append,or_iff_left no]
    exact h1.ed u hu v hv
   ·have hs1:=(h1.grey hx).1 h0
    rw [List.mem_append,List.mem_singleton,h2 v,List.mem_cons]
    constructor
    ·rintro (⟨q1,q2⟩ | q)
     ·exact ⟨.inr q1,q2⟩
     ·cases q; exact ⟨.inl rfl,hs1⟩
    ·rintro ⟨q1 | q1,q2⟩
     ·subst q1; exact .inr rfl
     ·exact .inl ⟨q1,q2⟩
   ·rcases List.mem_cons.1 hv with q | q
    ·subst q; dsimp only; rw [h0]; simp
    ·exact h3 v q
  ·rename_i g0 g1
   refine ⟨n1,e1,h1,fun v=>?_,fun v hv=>?_⟩
   ·rw [h2 v,List.mem_cons]
    constructor
    ·rintro ⟨q1,q2⟩; exact ⟨.inr q1,q2⟩
    ·rintro ⟨q1 | q1,q2⟩
     ·subst q1; exact absurd ((h1.grey hx).2 q2) (by simpa using g1)
     ·exact ⟨q1,q2⟩
   ·rcases List.mem_cons.1 hv with q | q
    ·subst q; simpa using g0
    ·exact h3 v q
theorem vis_dw (nx:Nat→List Int) (hnx:∀ a,∀ v∈nx a,0≤v):∀ (k:Nat) (a:Nat) (s:DS),s.c[a]?=some 0→whites s.c≤k→∃ n0 eb,Dw nx s (visP nx k a s) (n0++[(a:Int)]) eb none
 | 0,a,s,h0,hw=>by
  have:=whites_set1 s.c a h0
  omega
 | k+1,a,s,h0,hw=>by
  have hlt:a < s.c.length:=(List.getElem?_eq_some_iff.1 h0).1
  have hw1:=whites_set1 s.c a h0
  have ha1:(greyS a s).c[a]?=some 1:=by unfold greyS; dsimp only; rw [List.getElem?_set_self hlt]
  have hne:∀ i:Nat,i≠a→(greyS a s).c[i]?=s.c[i]?:=fun i hi=>by unfold greyS; dsimp only; rw [List.getElem?_set_ne (fun e=>hi e.symm)]
  obtain ⟨nf,eb,h1,h2,h3⟩:=fold_dw nx hnx k (vis_dw nx hnx k) a (greyS a s) ha1 (by unfold greyS; dsimp only; omega) (nx a) (hnx a)
  rw [visP]
  generalize (nx a).foldr (visStep (visP nx k) a) (greyS a s)=t at*
  have hlen:t.c.length=s.c.length:=by rw [h1.len]; unfold greyS; simp
  have hta:a < t.c.length:=by omega
  have na:(a:Int)∉nf:=fun hm=>by
   have:=h1.wh _ hm
   rw [Int.toNat_natCast,ha1] at this; simp at this
  have nea:∀ x∈nf,x.toNat≠a:=fun x hx e=>na (by have:=h1.inr x hx; rw [←e,Int.toNat_of_nonneg this]; exact hx)
  have e2:(endS a t).c[a]?=some 2:=by unfold endS; dsimp only; rw [List.getElem?_set_self hta]
  have en:∀ i:Nat,i≠a→(endS a t).c[i]?=t.c[i]?:=fun i hi=>by unfold endS; dsimp only; rw [List.getElem?_set_ne (fun e=>hi e.symm)]
  refine ⟨nf,eb,⟨?_,?_,?_,?_,?_,?_,?_,?_,?_,?_,?_⟩⟩
  ·unfold endS; dsimp only; rw [h1.hl,List.append_assoc]; rfl
  ·unfold endS; dsimp only; rw [h1.hb]; rfl
  ·unfold endS; dsimp only; rw [List.length_set,hlen]
  ·intro x hx; rcases List.mem_append.1 hx with hx | hx
   ·exact h1.inr x hx
   ·rw [List.mem_singleton.1 hx]; omega
  ·rw [List.nodup_append]
   exact ⟨h1.nd,by simp,fun x q y r e=>na (by rw [List.mem_singleton.1 r] at e; exact e▸q)⟩
  ·intro x hx; rcases List.mem_append.1 hx with hx | hx
   ·have:=h1.wh x hx
    rwa [hne _ (nea x hx)] at this
   ·rw [List.mem_singleton.1 hx,Int.toNat_natCast]; exact h0
  ·intro x hx; rcases List.mem_append.1 hx with hx | hx
   ·rw [en _ (nea x hx)]; exact h1.bl x hx
   ·rw [List.mem_singleton.1 hx,Int.toNat_natCast]; exact e2
  ·intro i hi
   rw [List.mem_append,not_or,List.mem_singleton] at hi
   have hia:i≠a:=fun e=>hi.2 (by rw [e])
   rw [en i hia,h1.un i hi.1,hne i hia]
  ·intro u hu v hv
   by_cases hva:v.toNat=a
   ·rw [hva,e2]; simp
   ·rw [en _ hva]
    rcases List.mem_append.1 hu with hu | hu
    ·exact h1.cl u hu v hv
    ·rw [List.mem_singleton.1 hu,Int.toNat_natCast] at hv
     exact h3 v hv
  ·intro e he
   rcases h1.src e he with q | ⟨b,q1,q2⟩
   ·exact .inl (List.mem_append_left _ q)
   ·cases q1; exact .inl (List.mem_append_right _ (by rw [q2]; simp))
  ·intro u hu v hv
   have hv0:=hnx _ v hv
   have hg1:(greyS a s).c[v.toNat]?=some 1↔s.c[v.toNat]?=some 1∨v=(a:Int):=by
    by_cases hva:v.toNat=a
    ·rw [hva,ha1]
     have:v=(a:Int):=by omega
     simp [this]
    ·rw [hne _ hva]
     have:v≠(a:Int):=by omega
     simp [this]
   have idl:(nf++[(a:Int)]).idxOf (a:Int)=nf.length:=by
    rw [List.idxOf_append,if_neg na]; simp
   have idv:∀ x∈nf,(nf++[(a:Int)]).idxOf x=nf.idxOf x:=fun x hx=>by rw [List.idxOf_append,if_pos hx]
   rcases List.mem_append.1 hu with hu | hu
   ·rw [h1.ed u hu v hv,hg1,idv u hu,List.mem_append,List.mem_singleton]
    have hul:=List.idxOf_lt_length_of_mem hu
    constructor
    ·rintro ((q | q) | ⟨q1,q2⟩)
     ·exact .inl q
     ·exact .inr ⟨.inr q,by rw [q,idl]; omega⟩
     ·exact .inr ⟨.inl q1,by rw [idv v q1]; exact q2⟩
    ·rintro (q | ⟨q1 | q1,q2⟩)
     ·exact .inl (.inl q)
     ·rw [idv v q1] at q2; exact .inr ⟨q1,q2⟩
     ·exact .inl (.inr q1)
   ·have hu':=List.mem_singleton.1 hu
    subst hu'
    rw [Int.toNat_natCast] at hv
    rw [h2 v,hg1,idl,List.mem_append,List.mem_singleton]
    constructor
    ·rintro ⟨_,q | q⟩
     ·exact .inl q
     ·exact .inr ⟨.inr q,by rw [q,idl]; exact Nat.le_refl _⟩
    ·rintro (q | ⟨q1 | q1,q2⟩)
     ·exact ⟨hv,.inl q⟩
     ·rw [idv v q1] at q2
      have:=List.idxOf_lt_length_of_mem q1
      omega
     ·exact ⟨hv,.inr q1⟩
theorem way_law (M:Img) (hin:∀ a:Nat,∀ v∈nextAt M a,0≤v∧v < (M.code.length:Int)) (e:Nat) (he:e < M.code.length):
  (∃ n0,(wayS M e).l=n0++[(e:Int)])∧(wayS M e).l.Nodup∧(∀ x∈(wayS M e).l,0≤x∧x < (M.code.length:Int))∧(∀ u∈(wayS M e).l,∀ v∈nextAt M u.toNat,v∈(wayS M e).l)∧∀ u∈(wayS M e).l,∀ v∈nextAt M u.toNat,((u,v)∈(wayS M e).b↔(wayS M e).l.idxOf u≤(wayS M e).l.idxOf v):=by
 have h0:∀ i:Nat,i < M.code.length→(List.replicate M.code.length 0)[i]?=some 0:=fun i hi=>by rw [List.getElem?_replicate,if_pos hi]
 obtain ⟨n0,eb,h⟩:=vis_dw (nextAt M) (fun a v hv=>(hin a v hv).1) M.code.length e ⟨List.replicate M.code.length 0,[],[]⟩ (h0 e he) (Nat.le_of_eq (whites_rep _))
 have hl:(wayS M e).l=n0++[(e:Int)]:=by unfold wayS; rw [h.hl,List.nil_append]
 have hb:(wayS M e).b=eb:=by unfold wayS; rw [h.hb,List.nil_append]
 have rng:∀ x∈n0++[(e:Int)],0≤x∧x < (M.code.length:Int):=fun x hx=>by
  have h1:=h.inr x hx
  have h2:=h.wh x hx
  dsimp only at h2
  rw [List.getElem?_replicate] at h2
  split at h2
  ·rename_i hlt; omega
  ·cases h2
 have cl:∀ u∈n0++[(e:Int)],∀ v∈nextAt M u.toNat,v∈n0++[(e:Int)]:=fun u hu v hv=>by
  apply Classical.byContradiction
  intro hn
  have h1:=h.cl u hu v hv
  have hv0:=hin _ v hv
  rw [h.un' hv0.1 hn] at h1
  exact h1 (h0 _ (by omega))
 rw [hl,hb]
 refine ⟨⟨n0,rfl⟩,h.nd,rng,cl,fun u hu v hv=>?_⟩
 rw [h.ed u hu v hv]
 dsimp only
 constructor
 ·rintro (q | ⟨_,q⟩)
  ·rw [List.getElem?_replicate] at q; split at q <;> simp at q
  ·exact q
 ·exact fun q=>.inr ⟨cl u hu v hv,q⟩
def aheS (M:Img) (fr:Nat) (at':Int) (_:Nat) (i:Nat) (acc:List Int):Stp (List Int) Unit:=.go (if (nextAt M (fr+i)).contains at'=true then acc++[((fr+i:Nat):Int)] else acc)
def aheG (M:Img) (fr:Nat) (at':Int) (is:List Nat):List Int:=(is.filter fun (i:Nat)=>(nextAt M (fr+i)).contains at').map fun (i:Nat)=>((fr+i:Nat):Int)
theorem fold_ahe (M:Img) (fr:Nat) (at':Int):∀ (is:List Nat) (i:Nat) (acc:List Int),foldS (aheS M fr at') is i acc=.inl (acc++aheG M fr at' is)
 | [],i,acc=>by simp [foldS,aheG]
 | g::r,i,acc=>by
  simp only [foldS,aheS]
  rw [fold_ahe M fr at' r (i+1) _]
  by_cases h:(nextAt M (fr+g)).contains at'=true
  ·simp only [h,if_true,aheG,List.filter_cons_of_pos,List.map_cons,List.append_assoc,List.singleton_append]
  ·simp only [h,aheG]
   rw [List.filter_cons_of_neg (by simpa using h)]
   simp
theorem Ahead_run (N:Nat) (m:Mem) (I:ImV) (M:Img) (hm:IM m I M) (hT:Tab m) (m0:Mem) (NC KC:Nat) (hck:CkOk m0 I M NC KC 54 0) (he:Ext m0 m) (hco:CodesOk M) (hlc:M.code.length≤20000) (hlf:M.funcs.length≤1000) (at':Int) (f fr te:Nat) (hof:ofP M 0 at'=((f:Int),true)) (hra:rangeP M 0 (f:Int)=((fr:Int),(te:Int))) (hft:fr≤te) (hte:te≤M.code.length) (hmn:m.n+2*KC+10*M.code.length+60≤2 ^ depth) (hN:NC+M.funcs.length+M.code.length+60≤N):
  ∃ v m',run A N 47 [.agg (ic I M),.int .i64 at'] m=some (v,m')∧IS m.n m' v (aheG M fr at' (List.range (te - fr)))∧Gr m m' (2*KC+6*M.code.length):=by
 obtain ⟨n,rfl⟩:∃ n,N=n+1:=⟨N - 1,by omega⟩
 have hP:=hm.pls
 obtain ⟨m1,ho,hg1⟩:=of_run n m I M hm (by omega) m0 0 NC KC hck he (by omega) (by omega) at'
 rw [hof] at ho
 dsimp only at ho
 have hgn1:=hg1.2
 obtain ⟨m2,hr,hg2⟩:=range_run n m1 I M (hm.ext hg1.1) (by omega) m0 0 NC KC hck (he.trans hg1.1) (by omega) (by omega) (f:Int)
 rw [hra] at hr
 dsimp only at hr
 have hgn2:=hg2.2
 have e2:=hg1.1.trans hg2.1
 have e2n:=e2.1
 rw [run_47]
 unfold fnEv a47
 simp only [KK,Nat.reduceEqDiff,Nat.reduceAdd,Nat.reduceLeDiff,Nat.reduceLT,ho,hr]
 generalize hq:codeEv (run A n) (ev A n).2 a47_L1 _=q
 have h:=scan0 (A:=A) a47_L1 a47_B1 a47_L1_step
  (fun i (acc:List Int) s=>∃ T L m3 v,s=⟨41,T,L,m3⟩∧keepT [1,2,8,9,10] [2] T=[(1,.int .i64 at'),(2,.loc 2 0),(8,.int .i64 (te:Int)),(9,v),(10,.int .i64 ((fr+i:Nat):Int))]∧lookL L 2=some (ic I M)∧IS m2.n m3 v acc∧Ext m2 m3∧m3.n≤m2.n+6*i∧acc.length≤i)
  (fun acc s=>∃ T L m3 v,s=⟨41,T,L,m3⟩∧keepT [9] [] T=[(9,v)]∧IS m2.n m3 v acc∧Ext m2 m3∧m3.n≤m2.n+6*(te - fr))
  (fun (_:Unit) s=>False) 0 50 (aheS M fr at') (List.range (te - fr))
  (fun N acc s hN ⟨T,L,m3,v,hs,hk,hL,ho,he2,hn2,hal⟩=>by
   subst hs
   rw [List.length_range] at hk hn2
   have h':¬((fr+(te - fr):Nat):Int) < (te:Int):=by omega
   obtain ⟨v1,v2,v3,v4⟩:=ho.pl
   unfold a47_B1
   exact ⟨_,by simp only [KK,Nat.reduceEqDiff,Nat.reduceLT,hk,hL,h']; rfl,_,_,m3,v,rfl,by simp only [keepT,List.map,look_set,look_cons,Nat.reduceEqDiff,if_true,if_false,v1],ho,he2,hn2⟩)
  (fun N i g acc s hN hx ⟨T,L,m3,v,hs,hk,hL,ho,he2,hn2,hal⟩=>by
   subst hs
   have hil:i < te - fr:=by have:=(List.getElem?_eq_some_iff.1 hx).1; rwa [List.length_range] at this
   have hg:g=i:=by rw [List.getElem?_range hil] at hx; exact (Option.some.inj hx).symm
   subst hg
   obtain ⟨v1,v2,v3,v4⟩:=ho.pl
   have h':((fr+g:Nat):Int) < (te:Int):=by omega
   have a1:=add_i (fr+g) (by omega)
   have e3:=e2.trans he2
   obtain ⟨x,hxx⟩:∃ x,M.code[fr+g]?=some x:=⟨_,List.getElem?_eq_getElem (by omega)⟩
   have hna:nextAt M (fr+g)=nextI x ((fr+g:Nat):Int):=by unfold nextAt; rw [hxx]
   obtain ⟨u,m4,hnx,hu,hg4,_⟩:=next_run N (by omega) m3 I M (hm.ext e3) (hT.ext e3) (fr+g) x hxx (hco _ x hxx) (by omega) (by omega)
   have hgn4:=hg4.2
   have hle:=nextI_len x ((fr+g:Nat):Int)
   have hct:=contains_run N m4 u _ (.inl hu) (by omega) at' (by omega)
   obtain ⟨u1,u2,u3,u4⟩:=hu.plain
   unfold aheS
   dsimp only
   rw [hna]
   unfold a47_B1
   have ho4:IS m2.n m4 v acc:=OS.ext ho hg4.1
   have e4:=he2.trans hg4.1
   cases hc:(nextI x ((fr+g:Nat):Int)).contains at'
   ·rw [hc] at hct
    rw [if_neg (by simp)]
    exact ⟨_,by simp only [KK,opE_mkslc,Nat.reduceEqDiff,Nat.reduceAdd,Nat.reduceLeDiff,Nat.reduceLT,Nat.reducePow,Nat.mul_one,hk,hL,h',v1,hnx,u2,hct,a1]; rfl,_,_,m4,v,rfl,by simp only [keepT,List.map,look_set,look_cons,in_int,in_loc,Nat.reduceEqDiff,if_true,if_false,List.contains_cons,List.contains_nil,beq_self_eq_true,Bool.or_false,v1]; rfl,by simp only [lookL_cons,if_true],ho4,e4,by omega,by omega⟩
   ·rw [hc] at hct
    rw [if_pos rfl]
    obtain ⟨v',m5,ha,ho3,n3,n4,k3,y1,y2,hf⟩:=push_int ho4 ((fr+g:Nat):Int) (by omega) e4.1 (by omega)
    exact ⟨_,by simp only [KK,opE_mkslc,Nat.reduceEqDiff,Nat.reduceAdd,Nat.reduceLeDiff,Nat.reduceLT,Nat.reducePow,Nat.mul_one,hk,hL,h',v1,hnx,u2,hct,a1,hf,zer1,ha,y1]; rfl,_,_,m5,v',rfl,by simp only [keepT,List.map,look_set,look_cons,in_int,in_loc,Nat.reduceEqDiff,if_true,if_false,List.contains_cons,List.contains_nil,beq_self_eq_true,Bool.or_false,y1]; rfl,by simp only [lookL_cons,if_true],ho3,⟨by have:=e4.1; omega,fun j hj=>(k3 j hj).trans (e4.2 j hj)⟩,by omega,by rw [List.length_append,List.length_singleton]; omega⟩)
  n [] _ (by rw [List.length_range]; omega) ⟨_,_,m2,.nils,rfl,by simp only [keepT,List.map,look_set,look_cons,in_int,in_nils,in_loc,Nat.reduceEqDiff,if_true,if_false,List.contains_cons,List.contains_nil,beq_self_eq_true,Bool.or_false]; rfl,by simp only [lookL_cons,if_true],IS.nil _ _,Ext.refl _,by omega,by simp⟩ hq
 rw [fold_ahe,List.nil_append] at h
 obtain ⟨s',e,T',L',m3,v,rfl,hk',ho3,he2,hn2⟩:=h
 subst e
 obtain ⟨v1,v2,v3,v4⟩:=ho3.pl
 exact ⟨v,m3,by simp only [look_set,look_nil,look_cons,Nat.reduceEqDiff,Nat.reduceLT,if_true,if_false,Bool.false_eq_true,hk',v2],OS.low ho3 e2.1,⟨e2.trans he2,by omega⟩⟩
open Go
theorem ah_len (M:Img) (fr:Nat) (at':Int) (is:List Nat):(aheG M fr at' is).length≤is.length:=by
 unfold aheG
 rw [List.length_map]
 exact List.length_filter_le _ _
def nop {α:Type} (_:Nat) (_:α) (_:Unit):Stp Unit Unit:=.go ()
theorem fold_nop {α:Type}:∀ (l:List α) (i:Nat),foldS (nop (α:=α)) l i ()=.inl ()
 | [],_=>rfl
 | x::r,i=>by
  simp only [foldS,nop]
  exact fold_nop r (i+1)
theorem next_len (M:Img) (a:Nat):(nextAt M a).length≤2:=by
 unfold nextAt
 split
 ·exact nextI_len _ _
 ·simp
open Go
theorem IS.blk {n0:Nat} {m:Mem} {v:AV} {l:List Int} (h:IS n0 m v l):∀ b,blkOf v=some b→n0≤b∧b < m.n:=OS.blk h
open Go
theorem way_col (M:Img) (hin:∀ a:Nat,∀ v∈nextAt M a,0≤v) (e:Nat) (he:e < M.code.length) (g:Nat):(wayS M e).c[g]?=some 2↔(g:Int)∈(wayS M e).l:=by
 obtain ⟨n0,eb,h⟩:=vis_dw (nextAt M) hin M.code.length e ⟨List.replicate M.code.length 0,[],[]⟩ (by dsimp only; rw [List.getElem?_replicate,if_pos he]) (Nat.le_of_eq (whites_rep _))
 have hl:(wayS M e).l=n0++[(e:Int)]:=by unfold wayS; rw [h.hl,List.nil_append]
 rw [hl]
 by_cases hg:(g:Int)∈n0++[(e:Int)]
 ·have h1:=h.bl _ hg
  rw [Int.toNat_natCast] at h1
  exact ⟨fun _=>hg,fun _=>h1⟩
 ·have h1:=h.un g hg
  dsimp only at h1
  refine ⟨fun h2=>?_,fun h2=>absurd h2 hg⟩
  unfold wayS at h2
  rw [h1,List.getElem?_replicate] at h2
  split at h2 <;> simp at h2
theorem rch_sorted (c:List Nat):∀ n,(rchG c (List.range n)).Pairwise (· < ·)
 | 0=>List.Pairwise.nil
 | n+1=>by
  unfold rchG
  rw [List.range_succ,List.filter_append,List.map_append,List.pairwise_append]
  refine ⟨rch_sorted c n,?_,fun a ha b hb=>?_⟩
  ·rw [List.filter_cons]
   split <;> simp
  ·obtain ⟨x,hx,rfl⟩:=List.mem_map.1 ha
   obtain ⟨y,hy,rfl⟩:=List.mem_map.1 hb
   have h1:=List.mem_range.1 (List.mem_filter.1 hx).1
   have h2:=List.mem_singleton.1 (List.mem_filter.1 hy).1
   omega
theorem reach_eq (M:Img) (f:Int):reachP M f=sortZ (wayF M f).l:=by
 unfold reachP
 by_cases hv:checkI M=0∧0≤f∧f < (M.funcs.length:Int)
 ·obtain ⟨hc,h0,hl⟩:=hv
  have hw:wayF M f=wayS M (fromP M f.toNat).toNat:=by unfold wayF; exact if_pos ⟨hc,h0,hl⟩
  have hfr:=entry_in hc (f:=f.toNat) (by omega)
  have hni:=fun a v hv=>(nextAt_in (M:=M) (next_in hc) (a:=a) (n:=v) hv)
  have hcol:=way_col M (fun a v hv=>(hni a v hv).1) (fromP M f.toNat).toNat (by omega)
  obtain ⟨_,hnd,hrng,_,_⟩:=way_law M hni (fromP M f.toNat).toNat (by omega)
  rw [hw]
  generalize wayS M (fromP M f.toNat).toNat=s at*
  have hmem:∀ x:Int,x∈rchG s.c (List.range M.code.length)↔x∈s.l:=fun x=>by
   unfold rchG
   constructor
   ·intro hx
    obtain ⟨y,hy,rfl⟩:=List.mem_map.1 hx
    exact (hcol y).1 (by simpa using (List.mem_filter.1 hy).2)
   ·intro hx
    obtain ⟨h1,h2⟩:=hrng x hx
    refine List.mem_map.2 ⟨x.toNat,List.mem_filter.2 ⟨List.mem_range.2 (by omega),?_⟩,by omega⟩
    have:=(hcol x.toNat).2 (by rw [Int.toNat_of_nonneg h1]; exact hx)
    simpa using this
  have hs:=rch_sorted s.c M.code.length
  have hnd2:(rchG s.c (List.range M.code.length)).Nodup:=hs.imp fun h=>by omega
  have hp:(rchG s.c (List.range M.code.length)).Perm s.l:=(List.perm_ext_iff_of_nodup hnd2 hnd).2 hmem
  refine List.Perm.eq_of_pairwise (le:=fun a b:Int=>decide (a≤b)=true) (fun a b _ _ h k=>by simp only [decide_eq_true_eq] at h k; omega) (hs.imp fun h=>by simp only [decide_eq_true_eq]; omega) (List.pairwise_mergeSort (fun a b c h k=>by simp only [decide_eq_true_eq] at *; omega) (fun a b=>by simp only [Bool.or_eq_true,decide_eq_true_eq]; omega) s.l) (hp.trans (List.mergeSort_perm s.l _).symm)
 ·have hw:wayF M f=⟨List.replicate M.code.length 0,[],[]⟩:=by unfold wayF; exact if_neg hv
  rw [hw]
  have h1:rchG (List.replicate M.code.length 0) (List.range M.code.length)=[]:=by
   unfold rchG
   rw [List.map_eq_nil_iff,List.filter_eq_nil_iff]
   intro a _
   rw [List.getElem?_replicate]
   split <;> simp
  dsimp only
  rw [h1]
  unfold sortZ
  simp
theorem inc_ext {a b:List Int} (ha:a.Pairwise (· < ·)) (hb:b.Pairwise (· < ·)) (h:∀ x,x∈a↔x∈b):a=b:=
 List.Perm.eq_of_pairwise (le:=fun a b:Int=>a < b) (fun a b _ _ h k=>by omega) ha hb ((List.perm_ext_iff_of_nodup (ha.imp fun h=>by omega) (hb.imp fun h=>by omega)).2 h)
theorem ahe_sorted (M:Img) (fr:Nat) (at':Int):∀ n,(aheG M fr at' (List.range n)).Pairwise (· < ·)
 | 0=>List.Pairwise.nil
 | n+1=>by
  unfold aheG
  rw [List.range_succ,List.filter_append,List.map_append,List.pairwise_append]
  refine ⟨ahe_sorted M fr at' n,?_,fun a ha b hb=>?_⟩
  ·rw [List.filter_cons]
   split <;> simp
  ·obtain ⟨x,hx,rfl⟩:=List.mem_map.1 ha
   obtain ⟨y,hy,rfl⟩:=List.mem_map.1 hb
   have h1:=List.mem_range.1 (List.mem_filter.1 hx).1
   have h2:=List.mem_singleton.1 (List.mem_filter.1 hy).1
   omega
theorem mem_ahe (M:Img) (fr:Nat) (at':Int) (n:Nat) (x:Int):x∈aheG M fr at' (List.range n)↔∃ i:Nat,i < n∧x=((fr+i:Nat):Int)∧at'∈nextAt M (fr+i):=by
 unfold aheG
 constructor
 ·intro hx
  obtain ⟨i,hi,rfl⟩:=List.mem_map.1 hx
  obtain ⟨h1,h2⟩:=List.mem_filter.1 hi
  exact ⟨i,List.mem_range.1 h1,rfl,by simpa using h2⟩
 ·rintro ⟨i,h1,rfl,h2⟩
  exact List.mem_map.2 ⟨i,List.mem_filter.2 ⟨List.mem_range.2 h1,by simpa using h2⟩,rfl⟩
def aheadP (M:Img) (at':Int):List Int:=if checkI M=0 then aheG M 0 at' (List.range M.code.length) else []
theorem ahead_out {M:Img} (hc:checkI M=0) (at':Int) (h:¬(0≤at'∧at' < (M.code.length:Int))):aheadP M at'=[]:=by
 unfold aheadP
 rw [if_pos hc,List.eq_nil_iff_forall_not_mem]
 intro x hx
 obtain ⟨i,_,_,h2⟩:=(mem_ahe M 0 at' _ x).1 hx
 exact h (nextAt_in (next_in hc) h2)
theorem ahead_seg {M:Img} (hc:checkI M=0) {f:Nat} (hf:f < M.funcs.length) (at':Int) (h1:fromP M f≤at'∧at' < toP M f):aheG M (fromP M f).toNat at' (List.range ((toP M f).toNat - (fromP M f).toNat))=aheadP M at':=by
 unfold aheadP
 rw [if_pos hc]
 have ht:=tiles_of (check_zero hc).2.1
 have hs:=ht.sp f hf
 refine inc_ext (ahe_sorted _ _ _ _) (ahe_sorted _ _ _ _) (fun x=>?_)
 rw [mem_ahe,mem_ahe]
 constructor
 ·rintro ⟨i,h2,rfl,h3⟩
  exact ⟨(fromP M f).toNat+i,by omega,by omega,by rw [Nat.zero_add]; exact h3⟩
 ·rintro ⟨i,h2,rfl,h3⟩
  rw [Nat.zero_add] at h3
  have hx:∃ y,M.code[i]?=some y:=⟨_,List.getElem?_eq_getElem h2⟩
  obtain ⟨y,hy⟩:=hx
  have h4:at'∈nextI y (i:Int):=by unfold nextAt at h3; rw [hy] at h3; exact h3
  obtain ⟨g,hg,_,hgr⟩:=ht.of (at':=(i:Int)) (by omega) (by omega)
  have h5:=next_within hc hy hg hgr h4
  have:=ht.uniq hf hg h1 h5
  subst this
  exact ⟨i - (fromP M f).toNat,by omega,by omega,by rw [show (fromP M f).toNat+(i - (fromP M f).toNat)=i by omega]; exact h3⟩
theorem AheadG_run (N:Nat) (m:Mem) (I:ImV) (M:Img) (hm:IM m I M) (hT:Tab m) (m0:Mem) (NC KC:Nat) (hck:CkOk m0 I M NC KC 54 (checkI M)) (he:Ext m0 m) (hlc:M.code.length≤20000) (hlf:M.funcs.length≤1000) (at':Int) (hmn:m.n+2*KC+10*M.code.length+60≤2 ^ depth) (hN:NC+M.funcs.length+M.code.length+60≤N):
  ∃ v m',run A N 47 [.agg (ic I M),.int .i64 at'] m=some (v,m')∧IS m.n m' v (aheadP M at')∧Gr m m' (2*KC+6*M.code.length):=by
 by_cases hv:checkI M=0∧0≤at'∧at' < (M.code.length:Int)
 ·obtain ⟨hc,h0,hl⟩:=hv
  have ht:=tiles_of (check_zero hc).2.1
  obtain ⟨f,hf,hfo,hfr⟩:=ht.of h0 hl
  have hs:=ht.sp f hf
  rw [hc] at hck
  have e1:((fromP M f).toNat:Int)=fromP M f:=Int.toNat_of_nonneg hs.1
  have e2:((toP M f).toNat:Int)=toP M f:=Int.toNat_of_nonneg (by omega)
  obtain ⟨v,m',h1,h2,h3⟩:=Ahead_run N m I M hm hT m0 NC KC hck he (codes_ok hc) hlc hlf at' f (fromP M f).toNat (toP M f).toNat (by unfold ofP; rw [if_pos ⟨rfl,h0,hl⟩,hfo]) (by rw [rangeP,if_pos rfl,spanP,if_neg (by omega),Int.toNat_natCast,e1,e2]) (by omega) (by omega) hmn hN
  rw [ahead_seg hc hf at' hfr] at h2
  exact ⟨v,m',h1,h2,h3⟩
 ·have hz:aheadP M at'=[]:=by
   by_cases hc:checkI M=0
   ·exact ahead_out hc at' (fun h=>hv ⟨hc,h⟩)
   ·unfold aheadP; exact if_neg hc
  rw [hz]
  obtain ⟨n,rfl⟩:∃ n,N=n+1:=⟨N - 1,by omega⟩
  have hP:=hm.pls
  obtain ⟨m1,ho,hg1⟩:=of_run n m I M hm (by omega) m0 _ NC KC hck he (by omega) (by omega) at'
  have hp:ofP M (checkI M) at'=(0,false):=by unfold ofP; exact if_neg hv
  rw [hp] at ho
  dsimp only at ho
  rw [run_47]
  unfold fnEv a47
  exact ⟨.nils,m1,by simp only [KK,Nat.reduceEqDiff,Nat.reduceAdd,Nat.reduceLeDiff,Nat.reduceLT,ho],IS.nil _ _,hg1.le (by omega)⟩
def rahS (at':Int) (i:Int) (_:Nat) (x:Int) (acc:List Int):Stp (List Int) Unit:=.go (if x=at' then acc++[i] else acc)
theorem fold_rah (at' i:Int):∀ (l:List Int) (k:Nat) (acc:List Int),foldS (rahS at' i) l k acc=.inl (acc++(l.filter fun x=>decide (x=at')).map fun _=>i)
 | [],k,acc=>by simp [foldS]
 | x::r,k,acc=>by
  simp only [foldS,rahS]
  rw [fold_rah at' i r (k+1) _]
  by_cases h:x=at' <;> simp [h]
theorem one_hit (at' i:Int):∀ l:List Int,l.Pairwise (· < ·)→((l.filter fun x=>decide (x=at')).map fun _=>i)=if l.contains at'=true then [i] else []
 | [],_=>rfl
 | x::r,hp=>by
  obtain ⟨h1,h2⟩:=List.pairwise_cons.1 hp
  by_cases h:x=at'
  ·subst h
   have hn:r.filter (fun y=>decide (y=x))=[]:=by
    rw [List.filter_eq_nil_iff]
    intro y hy
    have:=h1 y hy
    simp only [decide_eq_true_eq]
    omega
   simp [hn]
  ·have hb:(at' == x)=false:=by simpa using fun e:at'=x=>h e.symm
   rw [List.filter_cons_of_neg (by simpa using h),one_hit at' i r h2,List.contains_cons,hb,Bool.false_or]
theorem rah_l1 (m:Mem) (I:ImV) (M:Img) (u:AV) (l:List Int) (hu:RS (fun z=>[AV.int .i64 z]) 1 m u l) (hll:l.length≤2) (n0:Nat) (hn0:n0≤m.n) (v:AV) (acc:List Int) (ho:IS n0 m v acc) (hal:acc.length≤100000) (huv:∀ b,blkOf u=some b→b < m.n∧blkOf v≠some b) (at':Int) (i:Nat) (hmn:m.n+20≤2 ^ depth) (N:Nat) (T:List (Nat×AV)) (L:List (Nat×List AV)) (hN:10≤N)
  (hk:keepT [1,2,5,6,7,8] [2] T=[(1,.int .i64 at'),(2,.loc 2 0),(5,v),(6,.int .i64 (i:Int)),(7,u),(8,.int .i64 0)]) (hL:lookL L 2=some (ic I M)) {q:Option (Ex×St)} (hq:codeEv (run A N) (ev A N).2 a50_L1 ⟨39,T,L,m⟩=q):
  ∃ T' L' m' v',q=some (.exit 2,⟨39,T',L',m'⟩)∧keepT [1,2,5,6] [2] T'=[(1,.int .i64 at'),(2,.loc 2 0),(5,v'),(6,.int .i64 (i:Int))]∧lookL L' 2=some (ic I M)∧IS n0 m' v' (acc++(l.filter fun x=>decide (x=at')).map fun _=>(i:Int))∧m.n≤m'.n∧m'.n≤m.n+4∧∀ j,j < n0→m'.get j=m.get j:=by
 obtain ⟨u1,u2,u3,u4⟩:=hu.plain
 have lu:=hu.lenR
 have h:=scan0 (A:=A) a50_L1 a50_B1 a50_L1_step
  (fun k (acc':List Int) s=>∃ T L m2 v,s=⟨39,T,L,m2⟩∧keepT [1,2,5,6,7,8] [2] T=[(1,.int .i64 at'),(2,.loc 2 0),(5,v),(6,.int .i64 (i:Int)),(7,u),(8,.int .i64 (k:Int))]∧lookL L 2=some (ic I M)∧IS n0 m2 v acc'∧m.n≤m2.n∧m2.n≤m.n+2*k∧(∀ j,j < n0→m2.get j=m.get j)∧RS (fun z=>[AV.int .i64 z]) 1 m2 u l∧acc'.length≤acc.length+k∧∀ b,blkOf u=some b→b < m2.n∧blkOf v≠some b)
  (fun acc' s=>∃ T L m2 v,s=⟨39,T,L,m2⟩∧keepT [1,2,5,6] [2] T=[(1,.int .i64 at'),(2,.loc 2 0),(5,v),(6,.int .i64 (i:Int))]∧lookL L 2=some (ic I M)∧IS n0 m2 v acc'∧m.n≤m2.n∧m2.n≤m.n+2*l.length∧(∀ j,j < n0→m2.get j=m.get j))
  (fun (_:Unit) s=>False) 2 1 (rahS at' (i:Int)) l
  (fun N acc s hN ⟨T,L,m2,v,hs,hk,hL,ho,hn1,hn2,hkp,hu2,hal,huv⟩=>by
   subst hs
   have h':¬(l.length:Int) < (l.length:Int):=by omega
   obtain ⟨v1,v2,v3,v4⟩:=ho.pl
   unfold a50_B1
   exact ⟨_,by simp only [KK,Nat.reduceEqDiff,Nat.reduceLT,hk,hL,h',lu]; rfl,_,_,m2,v,rfl,by simp only [keepT,List.map,look_set,look_cons,in_int,in_loc,Nat.reduceEqDiff,if_true,if_false,List.contains_cons,List.contains_nil,beq_self_eq_true,Bool.or_false,v1],by simp only [lookL_cons,if_true],ho,hn1,hn2,hkp⟩)
  (fun N k x acc' s hN hx ⟨T,L,m2,v,hs,hk,hL,ho,hn1,hn2,hkp,hu2,hal,huv⟩=>by
   subst hs
   have hlt:=(List.getElem?_eq_some_iff.1 hx).1
   have h':(k:Int) < (l.length:Int):=by omega
   have ad:=add_i k (by omega)
   obtain ⟨v1,v2,v3,v4⟩:=ho.pl
   obtain ⟨g1,g2,g3,g4,e1,e2,e3⟩:=hu2.i1 hx
   unfold rahS
   dsimp only
   unfold a50_B1
   by_cases hd:x=at'
   ·have d1:decide (x=at')=true:=decide_eq_true hd
    rw [if_pos hd]
    have hf:=not_full (m:=m2) (by omega)
    obtain ⟨m3,ha,ho3,n3,k3⟩:=add_os (c:=1) (bytes:=8) (by omega) ho (e:=[.int .i64 (i:Int)]) rfl rfl (by omega) (by omega) (by omega) (by omega)
    have ho4:IS n0 m3 (.slice (m2.n+1) 0 (acc'.length+1) none 1) (acc'++[(i:Int)]):=by
     unfold IS
     rw [List.map_append,List.length_append,List.length_singleton]
     exact ho3
    have bv:=OS.blk ho
    exact ⟨_,by simp only [KK,opE_mkslc,Nat.reduceEqDiff,Nat.reduceAdd,Nat.reduceLeDiff,Nat.reduceLT,Nat.reducePow,Nat.mul_one,hk,hL,h',u1,v1,lu,e1,e2,e3,d1,hf,zer1,ha,ad]; rfl,_,_,m3,_,rfl,by simp only [keepT,List.map,look_set,look_cons,in_int,in_slice,in_loc,Nat.reduceEqDiff,if_true,if_false,List.contains_cons,List.contains_nil,beq_self_eq_true,Bool.or_false,u1],by simp only [lookL_cons,if_true],ho4,by omega,by omega,fun j hj=>(k3 j (by omega) (fun e=>by have:=(bv _ e).1; omega)).trans (hkp j hj),hu2.frame (fun b hb hub=>k3 b hb (huv b hub).2),by rw [List.length_append,List.length_singleton]; omega,fun b hb=>⟨by have:=(huv b hb).1; omega,fun e=>by cases e; have:=(huv _ hb).1; omega⟩⟩
   ·have d1:decide (x=at')=false:=decide_eq_false hd
    rw [if_neg hd]
    exact ⟨_,by simp only [KK,opE_mkslc,Nat.reduceEqDiff,Nat.reduceAdd,Nat.reduceLeDiff,Nat.reduceLT,Nat.reducePow,Nat.mul_one,hk,hL,h',u1,v1,lu,e1,e2,e3,d1,ad]; rfl,_,_,m2,v,rfl,by simp only [keepT,List.map,look_set,look_cons,in_int,in_loc,Nat.reduceEqDiff,if_true,if_false,List.contains_cons,List.contains_nil,beq_self_eq_true,Bool.or_false,u1,v1],by simp only [lookL_cons,if_true],ho,hn1,by omega,hkp,hu2,by omega,huv⟩)
  N acc ⟨39,T,L,m⟩ (by omega) ⟨T,L,m,v,rfl,hk,hL,ho,Nat.le_refl _,by omega,fun _ _=>rfl,hu,by omega,huv⟩ hq
 rw [fold_rah] at h
 obtain ⟨s',e,T',L',m',v',rfl,h3,h4,h5,h6,h7,h8⟩:=h
 exact ⟨T',L',m',v',e,h3,h4,h5,h6,by omega,h8⟩
theorem rAhead_run (N:Nat) (m:Mem) (I:ImV) (M:Img) (hm:IM m I M) (m0:Mem) (NC KC:Nat) (hck:CkOk m0 I M NC KC 37 (checkI M)) (he:Ext m0 m) (hlc:M.code.length≤20000) (at':Int) (hmn:m.n+KC+20*M.code.length+80≤2 ^ depth) (hN:NC+M.code.length+70≤N):
  ∃ v m',run A N 50 [.agg (ic I M),.int .i64 at'] m=some (v,m')∧IS m.n m' v (aheadP M at')∧Gr m m' (KC+12*M.code.length):=by
 obtain ⟨n,rfl⟩:∃ n,N=n+1:=⟨N - 1,by omega⟩
 have hP:=hm.pls
 obtain ⟨m1,hr,hg⟩:=hck n m (by omega) he (by omega)
 have hgn:=hg.2
 have hgl:=hg.1.1
 rw [run_50]
 unfold fnEv a50
 by_cases hc:checkI M=0
 rotate_left
 ·have hz:aheadP M at'=[]:=by unfold aheadP; exact if_neg hc
  rw [hz]
  have d1:decide (checkI M=0)=false:=decide_eq_false hc
  exact ⟨.nils,m1,by simp only [KK,Nat.reduceEqDiff,Nat.reduceAdd,Nat.reduceLeDiff,Nat.reduceLT,hr,d1],IS.nil _ _,hg.le (by omega)⟩
 have d1:decide (checkI M=0)=true:=decide_eq_true hc
 have hz:aheadP M at'=aheG M 0 at' (List.range M.code.length):=by unfold aheadP; exact if_pos hc
 rw [hz]
 simp only [KK,Nat.reduceEqDiff,Nat.reduceAdd,Nat.reduceLeDiff,Nat.reduceLT,hr,d1]
 generalize hq:codeEv (run A n) (ev A n).2 a50_L2 _=q
 have h:=scan0 (A:=A) a50_L2 a50_B2 a50_L2_step
  (fun i (acc:List Int) s=>∃ T L m2 v,s=⟨39,T,L,m2⟩∧keepT [1,2,5,6] [2] T=[(1,.int .i64 at'),(2,.loc 2 0),(5,v),(6,.int .i64 (i:Int))]∧lookL L 2=some (ic I M)∧IS m1.n m2 v acc∧Ext m1 m2∧m2.n≤m1.n+12*i∧acc.length≤i)
  (fun acc s=>∃ T L m2 v,s=⟨39,T,L,m2⟩∧keepT [5] [] T=[(5,v)]∧IS m1.n m2 v acc∧Ext m1 m2∧m2.n≤m1.n+12*M.code.length)
  (fun (_:Unit) s=>False) 0 20 (aheS M 0 at') (List.range M.code.length)
  (fun N acc s hN ⟨T,L,m2,v,hs,hk,hL,ho,he2,hn2,hal⟩=>by
   subst hs
   rw [List.length_range] at hk hn2
   have h':¬(M.code.length:Int) < (M.code.length:Int):=by omega
   obtain ⟨v1,v2,v3,v4⟩:=ho.pl
   unfold a50_B2
   exact ⟨_,by simp only [KK,Nat.reduceEqDiff,Nat.reduceAdd,Nat.reduceLeDiff,Nat.reduceLT,hk,hL,h',hP]; rfl,_,_,m2,v,rfl,by simp only [keepT,List.map,look_set,look_cons,Nat.reduceEqDiff,if_true,if_false,v1],ho,he2,hn2⟩)
  (fun N i g acc s hN hx ⟨T,L,m2,v,hs,hk,hL,ho,he2,hn2,hal⟩=>by
   subst hs
   have hil:i < M.code.length:=by have:=(List.getElem?_eq_some_iff.1 hx).1; rwa [List.length_range] at this
   have hgi:g=i:=by rw [List.getElem?_range hil] at hx; exact (Option.some.inj hx).symm
   subst hgi
   obtain ⟨v1,v2,v3,v4⟩:=ho.pl
   have h':(g:Int) < (M.code.length:Int):=by omega
   have ad:=add_i g (by omega)
   have e2:=hg.1.trans he2
   obtain ⟨x,hxx⟩:∃ x,M.code[g]?=some x:=⟨_,List.getElem?_eq_getElem (by omega)⟩
   have hna:nextAt M g=nextI x (g:Int):=by unfold nextAt; rw [hxx]
   obtain ⟨u,m3,hst,hou,hg3⟩:=steps_run N (by omega) m2 I M (hm.ext e2) g x hxx (codes_ok hc g x hxx) (by omega) (by omega)
   rw [←hna] at hou
   have hg3n:=hg3.2
   have hg3l:=hg3.1.1
   obtain ⟨u1,u2,u3,u4⟩:=hou.pl
   have hou':IS m2.n m3 u (nextAt M g):=hou
   have bu:=OS.blk hou'
   have bv:=OS.blk ho
   have hll:=next_len M g
   unfold aheS
   dsimp only
   rw [Nat.zero_add]
   unfold a50_B2
   simp only [KK,Nat.reduceEqDiff,Nat.reduceAdd,Nat.reduceLeDiff,Nat.reduceLT,hk,hL,h',hP,v1,hst,u1]
   generalize hq1:codeEv (run A N) (ev A N).2 a50_L1 _=q1
   obtain ⟨T1,L1,m4,v4',rfl,k4,l4,ho4,n4,n4',kp4⟩:=rah_l1 m3 I M u _ hou'.rs hll m1.n (by have:=he2.1; omega) v acc (OS.ext ho hg3.1) (by omega) (fun b hb=>⟨(bu b hb).2,fun e=>by have h1:=(bv b e).2; have h2:=(bu b hb).1; omega⟩) at' g (by omega) N _ _ (by omega) (by simp only [keepT,List.map,look_set,look_cons,in_int,in_loc,Nat.reduceEqDiff,if_true,if_false,List.contains_cons,List.contains_nil,beq_self_eq_true,Bool.or_false,v1,u1]) (by simp only [lookL_cons,if_true]) hq1
   rw [one_hit at' (g:Int) _ (nextAt_rise M g)] at ho4
   obtain ⟨w1,w2,w3,w4⟩:=ho4.pl
   have he4:Ext m1 m4:=⟨by have:=he2.1; omega,fun j hj=>(kp4 j hj).trans ((hg3.1.2 j (by have:=he2.1; omega)).trans (he2.2 j hj))⟩
   cases hct:(nextAt M g).contains at'
   ·rw [hct,if_neg (by simp),List.append_nil] at ho4
    rw [if_neg (by simp)]
    exact ⟨_,by simp only [look_set,look_nil,look_cons,Option.map_some,Nat.reduceEqDiff,Nat.reduceLT,if_true,if_false,k4,l4,ad]; rfl,_,_,m4,v4',rfl,by simp only [keepT,List.map,look_set,look_cons,in_int,in_loc,Nat.reduceEqDiff,if_true,if_false,List.contains_cons,List.contains_nil,beq_self_eq_true,Bool.or_false,w1],by simp only [lookL_cons,if_true],ho4,he4,by omega,by omega⟩
   ·rw [hct,if_pos rfl] at ho4
    rw [if_pos rfl]
    exact ⟨_,by simp only [look_set,look_nil,look_cons,Option.map_some,Nat.reduceEqDiff,Nat.reduceLT,if_true,if_false,k4,l4,ad]; rfl,_,_,m4,v4',rfl,by simp only [keepT,List.map,look_set,look_cons,in_int,in_loc,Nat.reduceEqDiff,if_true,if_false,List.contains_cons,List.contains_nil,beq_self_eq_true,Bool.or_false,w1],by simp only [lookL_cons,if_true],ho4,he4,by omega,by rw [List.length_append,List.length_singleton]; omega⟩)
  n [] _ (by rw [List.length_range]; omega) ⟨_,_,m1,.nils,rfl,by simp only [keepT,List.map,look_set,look_cons,in_int,in_nils,in_loc,Nat.reduceEqDiff,if_true,if_false,List.contains_cons,List.contains_nil,beq_self_eq_true,Bool.or_false]; rfl,by simp only [lookL_cons,if_true],IS.nil _ _,Ext.refl _,by omega,by simp⟩ hq
 rw [fold_ahe,List.nil_append] at h
 obtain ⟨s',e,T',L',m2,v,rfl,hk',ho,he2,hn2⟩:=h
 subst e
 obtain ⟨v1,v2,v3,v4⟩:=ho.pl
 exact ⟨v,m2,by simp only [look_set,look_nil,look_cons,Nat.reduceEqDiff,Nat.reduceLT,if_true,if_false,Bool.false_eq_true,Nat.succ_ne_self,hk',v2],OS.low ho hg.1.1,⟨hg.1.trans he2,by omega⟩⟩
theorem app_more {c n0 bytes:Nat} (hc:0 < c) {m:Mem} {v:AV} {cs:List AV} {n:Nat} (hv:OX c n0 m v cs n) {y:AV} {e:List AV} {k:Nat} (hel:∀ sn t l,y.elems ⟨sn,t,l,m⟩ c=some (k,e)) (he:e.length=k*c) (h1:e.all AV.one=true) (hk:k≠0)
  (hmn:m.n < 2 ^ depth) (hn0:n0≤m.n) (hb:(2*(n+k))*bytes≤281474976710656) (hn:n+k≤maxLen):
  ∃ m',(∀ sn t l,appEv ⟨sn,t,l,m⟩ none c bytes v y=some (.slice m.n 0 (n+k) none c,⟨sn,t,l,m'⟩))∧OX c n0 m' (.slice m.n 0 (n+k) none c) (cs++e) (n+k)∧m'.n=m.n+1∧(∀ i,i < m.n→blkOf v≠some i→m'.get i=m.get i):=by
 have hf:=not_full hmn
 rcases hv with ⟨rfl,rfl,rfl⟩ | ⟨b,cap,h0,rfl,hcap,h2,h3⟩
 ·refine ⟨m.push (.cells e true),fun sn t l=>?_,.inr ⟨m.n,none,hn0,rfl,.inl rfl,Mem.get_push_new _,by rw [List.nil_append,Nat.zero_add]; exact he⟩,push_n _ _,fun i hi _=>Mem.get_push_old _ hf (by omega)⟩
  simp only [appEv,hel,h1,hf,if_true,Bool.false_eq_true,if_false]
  rw [if_neg hk,if_pos (by rw [Nat.zero_add] at hb hn; exact ⟨hb,hn⟩),Nat.zero_add]
  rfl
 ·have hbl:=Mem.get_lt h2
  have hkc:c≤k*c:=by
   have:=Nat.mul_le_mul_right c (show 1≤k by omega)
   omega
  have c2:cellsAt cs 0 (n*c)=some cs:=by
   unfold cellsAt
   rw [if_pos (by omega)]
   simp [←h3]
  rcases hcap with rfl | rfl
  ·refine ⟨(m.set b .dead).push (.cells (cs++e) true),fun sn t l=>?_,.inr ⟨m.n,none,hn0,rfl,.inl rfl,?_,by simp [he,h3,Nat.add_mul]⟩,by rw [push_n,set_n],fun i hi hne=>?_⟩
   ·simp only [appEv,hel,h1,hf,if_true,Bool.false_eq_true,if_false,h2]
    have c1:¬(0+(n+k)*c≤cs.length):=by rw [h3,Nat.add_mul]; omega
    rw [if_pos ⟨trivial,hc⟩,if_neg c1,c2]
    simp only
    rw [if_pos ⟨hb,hn⟩]
    split <;> rfl
   ·have:=Mem.get_push_new (m:=m.set b .dead) (.cells (cs++e) true)
    rw [set_n] at this
    exact this
   ·rw [Mem.get_push_old _ (by rw [not_full]; rw [set_n]; exact hmn) (by rw [set_n]; omega),Mem.get_set_ne _ (by omega) hbl (fun e=>hne (by rw [e]; rfl))]
  ·refine ⟨m.push (.cells (cs++e) true),fun sn t l=>?_,.inr ⟨m.n,none,hn0,rfl,.inl rfl,Mem.get_push_new _,by simp [he,h3,Nat.add_mul]⟩,push_n _ _,fun i hi _=>Mem.get_push_old _ hf (by omega)⟩
   simp only [appEv,hel,h1,hf,if_true,Bool.false_eq_true,if_false,h2]
   rw [if_neg (by omega),c2]
   simp only
   rw [if_pos ⟨hb,hn⟩]
   rfl
def WayOk (m:Mem) (w:AV) (l:List Int):Prop:=∃ b cap ow,w=.slice b 0 l.length cap 1∧m.get b=some (.cells (l.map fun z=>AV.int .i64 z) ow)
theorem WayOk.ext {m m':Mem} {w:AV} {l:List Int} (h:WayOk m w l) (k:Ext m m'):WayOk m' w l:=by
 obtain ⟨b,cap,ow,h1,h2⟩:=h
 exact ⟨b,cap,ow,h1,(k.2 _ (Mem.get_lt h2)).trans h2⟩
theorem ints_one (l:List Int):(l.map fun z=>AV.int .i64 z).all AV.one=true:=by
 induction l with
 | nil=>rfl
 | cons x r ih=>rw [List.map_cons,List.all_cons,ih]; rfl
theorem way_elems {m:Mem} {w:AV} {l:List Int} (h:WayOk m w l) (sn:Nat) (t:List (Nat×AV)) (q:List (Nat×List AV)):w.elems ⟨sn,t,q,m⟩ 1=some (l.length,l.map fun z=>AV.int .i64 z):=by
 obtain ⟨b,cap,ow,rfl,h2⟩:=h
 simp only [AV.elems,h2]
 split
 ·rename_i h0
  have:l=[]:=List.length_eq_zero_iff.1 h0
  subst this; rfl
 ·have:cellsAt (l.map fun z=>AV.int .i64 z) 0 (l.length*1)=some (l.map fun z=>AV.int .i64 z):=by
   unfold cellsAt
   rw [if_pos (by simp),List.drop_zero,List.take_of_length_le (by simp)]
  rw [this]
theorem copy_way {m:Mem} {w:AV} {l:List Int} (h:WayOk m w l) (hne:l.length≠0) (hl:l.length≤1000) (hmn:m.n+3≤2 ^ depth):
  (∀ sn t q,appEv ⟨sn,t,q,m.push (.cells [] true)⟩ none 1 8 (.slice m.n 0 0 (some 0) 1) w=some (.slice (m.n+1) 0 l.length none 1,⟨sn,t,q,(m.push (.cells [] true)).push (.cells (l.map fun z=>AV.int .i64 z) true)⟩)):=by
 intro sn t q
 have hf0:=not_full (m:=m) (by omega)
 have x1:Ext m (m.push (.cells [] true)):=(Ext.refl m).push _ (by omega)
 have hf:=not_full (m:=m.push (.cells [] true)) (by rw [push_n]; omega)
 have hel:=way_elems (h.ext x1) sn t q
 have h1:=ints_one l
 have hg:=Mem.get_push_new (m:=m) (.cells [] true)
 simp only [appEv,hel,h1,hf,if_true,Bool.false_eq_true,if_false,hg]
 have hc:cellsAt ([]:List AV) 0 (0*1)=some []:=rfl
 rw [if_neg (by omega),hc]
 simp only
 rw [if_pos ⟨by omega,Nat.le_trans (show 0+l.length≤1000 by omega) (by decide)⟩,push_n,Nat.zero_add,List.nil_append]
 rfl
theorem zer0:zerosEv [AV.int .i64 0] 0=[]:=rfl
def RecO (m0:Mem) (I:ImV) (M:Img) (most:Int) (k:Nat):Prop:=
 ∀ (N:Nat) (m:Mem) (w:AV) (l:List Int) (a:Nat),40+8*k≤N→Ext m0 m→WayOk m w l→l[l.length - 1]?=some (a:Int)→l.length≠0→(l.length:Int)+k=most→l.length+k≤20→a < M.code.length→m.n+30*Lp k+100≤2 ^ depth→
  ∃ v m' ws,run A N 89 [.agg (ic I M),w,.int .i64 most] m=some (v,m')∧OX 1 m.n m' v ws ws.length∧Rows m' v ws (ptree M k l a)∧(∀ x∈ws,∀ b,blkOf x=some b→m.n≤b)∧Ext m m'∧m'.n≤m.n+30*Lp k
theorem rows_more {n0:Nat} {m:Mem} {v y:AV} {ws ds:List AV} {ls es:List (List Int)} (hv:OX 1 n0 m v ws ws.length) (hr:Rows m v ws ls) (hy:OX 1 n0 m y ds ds.length) (hd:Rows m y ds es) (hds:ds≠[]) (hdv:∀ x∈ds,∀ b,blkOf x=some b→blkOf v≠some b) (hyv:∀ b,blkOf y=some b→blkOf v≠some b) (hmn:m.n+3≤2 ^ depth) (hn0:n0≤m.n) (hb:ws.length+ds.length≤1000000):
  ∃ m',(∀ sn t l,appEv ⟨sn,t,l,m⟩ none 1 24 v y=some (.slice m.n 0 (ws.length+ds.length) none 1,⟨sn,t,l,m'⟩))∧OX 1 n0 m' (.slice m.n 0 (ws.length+ds.length) none 1) (ws++ds) (ws++ds).length∧Rows m' (.slice m.n 0 (ws.length+ds.length) none 1) (ws++ds) (ls++es)∧m'.n=m.n+1∧(∀ i,i < m.n→blkOf v≠some i→m'.get i=m.get i):=by
 have hk:ds.length≠0:=fun e=>hds (List.length_eq_zero_iff.1 e)
 have h1:ds.all AV.one=true:=by
  rw [List.all_eq_true]
  intro x hx
  obtain ⟨i,hi,rfl⟩:=List.getElem_of_mem hx
  obtain ⟨l,hl⟩:∃ l,es[i]?=some l:=⟨_,List.getElem?_eq_getElem (by rw [←hd.1]; exact hi)⟩
  exact (hd.2 i _ l (List.getElem?_eq_getElem hi) hl).1.plain.2.2.1
 have hel:∀ sn t l,y.elems ⟨sn,t,l,m⟩ 1=some (ds.length,ds):=by
  intro sn t l
  rcases hy with ⟨_,h,_⟩ | ⟨b,cap,h0,rfl,hc,h2,h3⟩
  ·exact absurd h hds
  ·simp only [AV.elems,h2]
   rw [if_neg hk]
   have:cellsAt ds 0 (ds.length*1)=some ds:=by
    unfold cellsAt
    rw [if_pos (by omega),List.drop_zero,List.take_of_length_le (by omega)]
   rw [this]
 obtain ⟨m',ha,ho,hn,hkp⟩:=app_more (c:=1) (bytes:=24) (by omega) hv hel (by omega) h1 hk (by omega) hn0 (by omega) (Nat.le_trans hb (by decide))
 refine ⟨m',ha,by rw [List.length_append]; exact ho,⟨by rw [List.length_append,List.length_append,hr.1,hd.1],fun i x l hx hl=>?_⟩,hn,hkp⟩
 by_cases hi:i < ws.length
 ·rw [List.getElem?_append_left hi] at hx
  rw [List.getElem?_append_left (by rw [←hr.1]; exact hi)] at hl
  obtain ⟨q1,q2⟩:=hr.2 i x l hx hl
  refine ⟨q1.frame fun b hb hbw=>hkp b hb (q2 b hbw).2,fun b hb=>⟨by have:=(q2 b hb).1; omega,?_⟩⟩
  have:=(q2 b hb).1
  simp only [blkOf,ne_eq,Option.some.injEq]
  omega
 ·rw [List.getElem?_append_right (by omega)] at hx
  rw [List.getElem?_append_right (by rw [←hr.1]; omega),←hr.1] at hl
  obtain ⟨q1,q2⟩:=hd.2 _ x l hx hl
  have hxm:=List.mem_of_getElem? hx
  refine ⟨q1.frame fun b hb hbw=>hkp b hb (hdv x hxm b hbw),fun b hb=>⟨by have:=(q2 b hb).1; omega,?_⟩⟩
  have:=(q2 b hb).1
  simp only [blkOf,ne_eq,Option.some.injEq]
  omega
theorem OX.blk {c n0:Nat} {m:Mem} {v:AV} {cs:List AV} {n:Nat} (h:OX c n0 m v cs n):∀ b,blkOf v=some b→n0≤b∧b < m.n:=by
 rcases h with ⟨rfl,_⟩ | ⟨b,cap,h0,rfl,_,h1,_⟩
 ·intro b hb; cases hb
 ·intro k hk; cases hk; exact ⟨h0,Mem.get_lt h1⟩
theorem WayOk.plain {m:Mem} {w:AV} {l:List Int} (h:WayOk m w l):(∀ ls,AV.locIn ls w=true)∧w.isLoc=false∧AV.one w=true∧w.cells?=some [w]:=by
 obtain ⟨b,cap,ow,rfl,_⟩:=h
 exact ⟨fun _=>rfl,rfl,rfl,rfl⟩
theorem ptree_ne (M:Img):∀ (k:Nat) (l:List Int) (a:Nat),ptree M k l a≠[]
 | 0,l,a=>by simp [ptree]
 | k+1,l,a=>by simp [ptree]
theorem on_child (k:Nat) (m0:Mem) (I:ImV) (M:Img) (hm0:IM m0 I M) (most:Int) (hrec:RecO m0 I M most k) (n0:Nat) (N:Nat) (hN:40+8*k≤N) (m:Mem) (he:Ext m0 m) (w:AV) (l:List Int) (hw:WayOk m w l) (hl0:l.length≠0) (hml:(l.length:Int)+((k+1:Nat):Int)=most) (hl20:l.length+k+1≤20) (u:AV) (nl:List Int) (hu:RS (fun z=>[AV.int .i64 z]) 1 m u nl) (i:Nat) (x:Int) (hx:nl[i]?=some x) (hx0:0≤x∧x < (M.code.length:Int)) (hnl:nl.length≤2) (v7:AV) (ws:List AV) (ls:List (List Int)) (hv:OX 1 n0 m v7 ws ws.length) (hr:Rows m v7 ws ls) (hws:ws.length≤100000) (hn0:n0≤m.n)
  (_hwu:∀ b,blkOf w=some b→blkOf v7≠some b) (_huv:∀ b,blkOf u=some b→b < m.n∧blkOf v7≠some b) (hLp:Lp k≤10000) (hmn:m.n+30*Lp k+110≤2 ^ depth) (T:List (Nat×AV)) (L:List (Nat×List AV)) (hk:keepT [1,2,3,7,8,9] [3] T=[(1,w),(2,.int .i64 most),(3,.loc 3 0),(7,v7),(8,u),(9,.int .i64 (i:Int))]) (hL:lookL L 3=some (ic I M)):
  ∃ T' L' m' v' ws',codeEv (run A N) (ev A N).2 a89_B1 ⟨48,T,L,m⟩=some (.norm,⟨48,T',L',m'⟩)∧keepT [1,2,3,7,8,9] [3] T'=[(1,w),(2,.int .i64 most),(3,.loc 3 0),(7,v'),(8,u),(9,.int .i64 ((i+1:Nat):Int))]∧lookL L' 3=some (ic I M)∧OX 1 n0 m' v' (ws++ws') (ws++ws').length∧Rows m' v' (ws++ws') (ls++ptree M k (l++[x]) x.toNat)∧(∀ y∈ws',∀ b,blkOf y=some b→m.n≤b)∧(∀ b,blkOf v'=some b→m.n≤b)∧ws'.length≤Lp k∧m.n≤m'.n∧m'.n≤m.n+30*Lp k+5∧(∀ j,j < m.n→blkOf v7≠some j→m'.get j=m.get j):=by
 have hm:=hm0.ext he
 have hP:=hm.pls
 obtain ⟨v1,v2,v3,v4⟩:=hv.plain
 obtain ⟨u1,u2,u3,u4⟩:=hu.plain
 have lu:=hu.lenR
 have hin:=(List.getElem?_eq_some_iff.1 hx).1
 have h':(i:Int) < (nl.length:Int):=by omega
 have ad:=add_i i (by omega)
 obtain ⟨b2,o2,cs2,ow2,e1,e2,e3⟩:=hu.i1 hx
 have hf0:=not_full (m:=m) (by omega)
 have x1:Ext m (m.push (.cells [] true)):=(Ext.refl m).push _ (by omega)
 have hcw:=copy_way hw hl0 (by omega) (by omega)
 have f1:=not_full (m:=m.push (.cells [] true)) (by rw [push_n]; omega)
 have x2:Ext m ((m.push (.cells [] true)).push (.cells (l.map fun z=>AV.int .i64 z) true)):=x1.push _ (by rw [push_n]; omega)
 have n2:((m.push (.cells [] true)).push (.cells (l.map fun z=>AV.int .i64 z) true)).n=m.n+2:=by rw [push_n,push_n]
 have g2:((m.push (.cells [] true)).push (.cells (l.map fun z=>AV.int .i64 z) true)).get (m.n+1)=some (.cells (l.map fun z=>AV.int .i64 z) true):=by
  have:=Mem.get_push_new (m:=m.push (.cells [] true)) (.cells (l.map fun z=>AV.int .i64 z) true)
  rw [push_n] at this
  exact this
 have x12:Ext (m.push (.cells [] true)) ((m.push (.cells [] true)).push (.cells (l.map fun z=>AV.int .i64 z) true)):=(Ext.refl _).push _ (by rw [push_n]; omega)
 have hsm1:sameRead (m.push (.cells [] true)) ((m.push (.cells [] true)).push (.cells (l.map fun z=>AV.int .i64 z) true)) (.ptr b2 o2) 1=true:=same_read ((x1.2 _ (Mem.get_lt e2)).trans e2) ((x2.2 _ (Mem.get_lt e2)).trans e2) e3 (by simp [eqV])
 have oc:IS (m.n+1) ((m.push (.cells [] true)).push (.cells (l.map fun z=>AV.int .i64 z) true)) (.slice (m.n+1) 0 l.length none 1) l:=.inr ⟨m.n+1,Nat.le_refl _,rfl,g2,by simp⟩
 generalize hm2:(m.push (.cells [] true)).push (.cells (l.map fun z=>AV.int .i64 z) true)=m2 at*
 obtain ⟨m4,ha,o4,n4,k4⟩:=add_os (c:=1) (bytes:=8) (by omega) oc (e:=[.int .i64 x]) rfl rfl (by omega) (by omega) (by omega) (by omega)
 have f2:=not_full (m:=m2) (by omega)
 have x3:Ext m2 (m2.push (.cells [.int .i64 x] true)):=(Ext.refl _).push _ (by omega)
 have x4:Ext m m4:=⟨by omega,fun j hj=>(k4 j (by omega) (fun e=>by cases e; omega)).trans (x2.2 j hj)⟩
 have hsm2:sameRead (m2.push (.cells [.int .i64 x] true)) m4 (.ptr b2 o2) 1=true:=same_read ((x3.2 _ (by have:=Mem.get_lt e2; omega)).trans ((x2.2 _ (Mem.get_lt e2)).trans e2)) ((x4.2 _ (Mem.get_lt e2)).trans e2) e3 (by simp [eqV])
 have hlog:logOk [Acc.rw (.loc 3 0) 8 false,Acc.rw (.ptr b2 o2) 1 false,Acc.eff (m.push (.cells [] true)) m2,Acc.eff (m2.push (.cells [.int .i64 x] true)) m4]=true:=by
  have hs0:∀ m m':Mem,sameRead m m' (.loc 3 0) 8=true:=fun _ _=>rfl
  simp only [logOk,List.all_cons,List.all_nil,accFit,hsm1,hsm2,hs0,Bool.and_true,Bool.and_self,beq_self_eq_true,Bool.true_or]
 have o4':IS (m.n+1) m4 (.slice (m2.n+1) 0 (l.length+1) none 1) (l++[x]):=by
  unfold IS
  rw [List.map_append,List.length_append,List.length_singleton]
  exact o4
 have hw4:WayOk m4 (.slice (m2.n+1) 0 (l.length+1) none 1) (l++[x]):=by
  rcases o4' with ⟨h,_⟩ | ⟨b,_,h,h2,_⟩
  ·cases h
  ·exact ⟨b,none,true,by rw [h,List.length_append,List.length_singleton],h2⟩
 have hlen:(l++[x]).length=l.length+1:=by simp
 have hLp1:1≤Lp k:=by cases k <;> simp [Lp]
 obtain ⟨y,m5,ds,hr5,oy,ry,hd5,x5,n5⟩:=hrec N m4 _ (l++[x]) x.toNat hN (he.trans x4) hw4 (by rw [hlen,Nat.add_sub_cancel,List.getElem?_append_right (Nat.le_refl _),Nat.sub_self]; simp; omega) (by rw [hlen]; omega) (by rw [hlen]; omega) (by rw [hlen]; omega) (by omega) (by omega)
 have hds:ds.length=(ptree M k (l++[x]) x.toNat).length:=ry.1
 have hdl:=ptree_len M k (l++[x]) x.toNat
 have hdn:ds≠[]:=fun e=>ptree_ne M k (l++[x]) x.toNat (List.length_eq_zero_iff.1 (by rw [←hds,e]; rfl))
 obtain ⟨y1,y2,y3,y4⟩:=oy.plain
 have by5:=oy.blk
 have bv:=hv.blk
 have x45:=x4.trans x5
 have hv5:OX 1 n0 m5 v7 ws ws.length:=hv.ext x45
 have hr5':Rows m5 v7 ws ls:=⟨hr.1,fun j z q hz hq=>⟨(hr.2 j z q hz hq).1.ext x45,fun b hb=>⟨by have:=((hr.2 j z q hz hq).2 b hb).1; have:=x45.1; omega,((hr.2 j z q hz hq).2 b hb).2⟩⟩⟩
 obtain ⟨m6,ha6,o6,r6,n6,k6⟩:=rows_more hv5 hr5' (oy.low (by have:=x4.1; omega)) ry hdn (fun z hz b hb e=>by have h1:=hd5 z hz b hb; have h2:=(bv b e).2; omega) (fun b hb e=>by have h1:=(by5 b hb).1; have h2:=(bv b e).2; omega) (by omega) (by have:=x45.1; omega) (by omega)
 have l20:¬(20:Int) < 0:=by omega
 have hn12:m.n+1+1=m.n+2:=rfl
 obtain ⟨w1,w2,w3,w4⟩:=hw.plain
 exact ⟨_,_,m6,_,ds,by
  unfold a89_B1
  simp only [KK,opE_mkslc,Nat.reduceEqDiff,Nat.reduceAdd,Nat.reduceLeDiff,Nat.reduceLT,Nat.reducePow,Nat.mul_one,AOp.kd,kd_rm,hk,hL,h',v1,u1,w1,lu,e1,e2,e3,hf0,zer0,hcw,f2,zer1,ha,hr5,ha6,hlog,ad]
  rfl,by simp only [keepT,List.map,look_set,look_cons,in_int,in_slice,in_loc,Nat.reduceEqDiff,if_true,if_false,List.contains_cons,List.contains_nil,beq_self_eq_true,Bool.or_false,u1,w1],by simp only [lookL_cons,if_true],o6,r6,fun z hz b hb=>by have:=hd5 z hz b hb; omega,fun b hb=>by cases hb; have:=x45.1; omega,by omega,by have:=x45.1; omega,by omega,fun j hj hne=>(k6 j (by have:=x45.1; omega) hne).trans (x45.2 j hj)⟩
end AG
