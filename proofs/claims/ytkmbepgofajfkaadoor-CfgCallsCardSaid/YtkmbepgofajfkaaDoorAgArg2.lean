/- The abstract machine, part 20: arguments: numbers, slices of rows of numbers; the blocks that they lead to lie behind the listed variables. -/
import Derived.Test.YtkmbepgofajfkaaDoorAgArgs
import Derived.WideShapes
namespace AG
noncomputable section
open Go Go.RowKit Go.ChangeShapes Go.WideShapes
section
variable {P:Program} {w:World} {H:Type} {enc:TypeId×Value→H} {spare:Nat→Bool} {held:Bool}
end
theorem rows_of {α:Type} (f:α→List AV) (R:α→Prop) (c:Nat) (hf:∀ x,(f x).length=c) (cs:List Value):∀ ln,(∀ i,i < ln→∃ x,R x∧∀ ρ,VRs ρ (f x) ((cs.drop (i*c)).take c))→ln*c≤cs.length→
  ∃ l:List α,l.length=ln∧(∀ x∈l,R x)∧∀ ρ,VRs ρ (l.flatMap f) (cs.take (ln*c))
 | 0,_,_=>⟨[],rfl,fun _ h=>(by cases h),fun ρ=>by simp [VRs]⟩
 | ln+1,h,hl=>by
  have e:(ln+1)*c=ln*c+c:=by rw [Nat.add_mul,Nat.one_mul]
  obtain ⟨l,h1,h2,h3⟩:=rows_of f R c hf cs ln (fun i hi=>h i (by omega)) (by omega)
  obtain ⟨x,hx,hv⟩:=h ln (by omega)
  refine ⟨l++[x],by simp [h1],fun y hy=>?_,fun ρ=>?_⟩
  ·rcases List.mem_append.1 hy with hy | hy
   ·exact h2 y hy
   ·simp only [List.mem_singleton] at hy; subst hy; exact hx
  ·rw [List.flatMap_append,e,List.take_add]
   refine (h3 ρ).append ?_
   simpa using hv ρ
theorem flat_len {α:Type} (f:α→List AV) (c:Nat) (hf:∀ x,(f x).length=c):∀ l:List α,(l.flatMap f).length=l.length*c
 | []=>by simp
 | x::l=>by simp [flat_len f c hf l,hf,Nat.add_mul,Nat.add_comm]
theorem flat_drop {α:Type} (f:α→List AV) (c:Nat) (hf:∀ x,(f x).length=c):∀ (l:List α) (i:Nat),(l.flatMap f).drop (i*c)=(l.drop i).flatMap f
 | l,0=>by simp
 | [],i+1=>by simp
 | x::l,i+1=>by
  rw [List.flatMap_cons,Nat.add_mul,Nat.one_mul,Nat.add_comm,List.drop_append,hf]
  rw [List.drop_of_length_le (by rw [hf]; omega),List.nil_append,Nat.add_sub_cancel_left,flat_drop f c hf l i,List.drop_succ_cons]
theorem flat_cells {α:Type} (f:α→List AV) (c:Nat) (hf:∀ x,(f x).length=c) {l:List α} {i:Nat} {x:α} (h:l[i]?=some x):cellsAt (l.flatMap f) (0+i*c) c=some (f x):=by
 obtain ⟨hi,hx⟩:=List.getElem?_eq_some_iff.1 h
 unfold cellsAt
 rw [Nat.zero_add,flat_len f c hf,if_pos (by
  have:(i+1)*c≤l.length*c:=Nat.mul_le_mul_right c hi
  rw [Nat.add_mul,Nat.one_mul] at this
  exact this),flat_drop f c hf,List.drop_eq_getElem_cons hi,List.flatMap_cons,hx]
 rw [List.take_append_of_le_length (by rw [hf]; exact Nat.le_refl _),List.take_of_length_le (by rw [hf]; exact Nat.le_refl _)]
theorem MR.more {P:Program} {bs bs':List ABlk} {ρ:Rho} {w:World} (hm:MR P ρ (memOf bs) w) (ho:bs.all (fun b=>!b.own)=true) (ho':bs'.all (fun b=>!b.own)=true) (hle:bs.length+bs'.length≤2 ^ depth) (xs:List At) (hl:xs.length=bs'.length)
  (hb:∀ (i:Nat) (b:ABlk),bs'[i]?=some b→∃ x:At,xs[i]?=some x∧BR (ρ++xs) x w b):MR P (ρ++xs) (memOf (bs++bs')) w:=by
 obtain ⟨h1,h2⟩:=foldl_push bs { n:=0,t:=.nil } (by simp; omega)
 simp only [Nat.zero_add,Nat.not_lt_zero,if_false,Nat.sub_zero] at h1 h2
 have hlen:ρ.length=bs.length:=by have:=hm.len; unfold memOf at this; rw [h1] at this; exact this
 have hg:∀ (i:Nat) (b:ABlk),bs[i]?=some b→(memOf bs).get i=some b:=fun i b h=>by unfold memOf; rw [h2]; exact h
 refine MR.of_list (by simp [hlen,hl]) (by simp only [List.length_append]; exact hle) (fun g hg'=>?_) (fun i b hib=>?_) (fun b hb'=>?_)
 ·obtain ⟨x,hx,h3⟩:=hm.glob g hg'
  exact ⟨x,Rho.le_append ρ xs g x hx,h3⟩
 ·by_cases hi:i < bs.length
  ·rw [List.getElem?_append_left hi] at hib
   obtain ⟨x,hx,hbr⟩:=hm.blk i b (hg i b hib)
   exact ⟨x,Rho.le_append ρ xs i x hx,hbr.mono (Rho.le_append ρ xs)⟩
  ·rw [List.getElem?_append_right (by omega)] at hib
   obtain ⟨x,hx,hbr⟩:=hb _ _ hib
   exact ⟨x,by rw [List.getElem?_append_right (by omega),hlen]; exact hx,hbr⟩
 ·rcases List.mem_append.1 hb' with h | h
  ·have:=List.all_eq_true.1 ho b h; simpa using this
  ·have:=List.all_eq_true.1 ho' b h; simpa using this
def sliceArg {α:Type} (f:α→List AV) (c:Nat) (B:Nat) (v:AV) (b:ABlk) (l:List α):Prop:=
 (v=.nils∧b=.dead∧l=[])∨∃ cap,v=.slice B 0 l.length (some cap) c∧((b=.dead∧l=[])∨b=.cells (l.flatMap f) false)
theorem sliceArg.own {α:Type} {f:α→List AV} {c B:Nat} {v:AV} {b:ABlk} {l:List α} (h:sliceArg f c B v b l):b.own=false:=by
 rcases h with ⟨_,rfl,_⟩ | ⟨_,_,⟨rfl,_⟩ | rfl⟩ <;> rfl
theorem memOf_get {bs:List ABlk} (hle:bs.length≤2 ^ depth) (i:Nat):(memOf bs).get i=bs[i]?:=by
 obtain ⟨_,h2⟩:=foldl_push bs { n:=0,t:=.nil } (by simpa using hle)
 unfold memOf
 rw [h2]
 simp
theorem memOf_n {bs:List ABlk} (hle:bs.length≤2 ^ depth):(memOf bs).n=bs.length:=by
 obtain ⟨h1,_⟩:=foldl_push bs { n:=0,t:=.nil } (by simpa using hle)
 unfold memOf
 rw [h1]
 simp
end
end AG
