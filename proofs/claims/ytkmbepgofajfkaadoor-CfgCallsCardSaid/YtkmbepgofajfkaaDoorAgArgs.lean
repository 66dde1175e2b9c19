/- The abstract machine, part 19: arguments: numbers, structs of numbers, slices of them. -/
import Derived.Test.YtkmbepgofajfkaaDoorAgSym
namespace AG
noncomputable section
open Go Go.RowKit
def Ints:List IntKind→List Value→Prop
 | [],cs=>cs=[]
 | k::ks,cs=>∃ n rest,cs=.int k n::rest∧(Lit.int k n).wf=true∧Ints ks rest
theorem Ints.append:∀ {ks ks':List IntKind} {cs cs':List Value},Ints ks cs→Ints ks' cs'→Ints (ks++ks') (cs++cs')
 | [],_,_,_,h,h'=>by simp only [Ints] at h; subst h; simpa using h'
 | k::ks,_,_,_,h,h'=>by
  simp only [Ints] at h
  obtain ⟨n,rest,rfl,h1,h2⟩:=h
  simp only [List.cons_append,Ints]
  exact ⟨n,_,rfl,h1,Ints.append h2 h'⟩
theorem Ints.length:∀ {ks:List IntKind} {cs:List Value},Ints ks cs→cs.length=ks.length
 | [],_,h=>by simp only [Ints] at h; subst h; rfl
 | k::ks,_,h=>by
  simp only [Ints] at h
  obtain ⟨n,rest,rfl,_,h2⟩:=h
  simp [Ints.length h2]
section
variable {P:Program} {w:World} {H:Type} {enc:TypeId×Value→H} {base:Nat} {spare:Nat→Bool} {held:Bool}
end
theorem law_calls {P:Program} {A:Nat→Option AFn} (hA:AOk P A) {n f:Nat} {args:List AV} {bs:List ABlk} {m':Mem} (h:run A n f args (memOf bs)=some (.bool true,m')) {ρ:Rho} {w:World} (hm:MR P ρ (memOf bs) w)
  {rargs:Array Value} (ha:VRs ρ args rargs.toList) (hle:bs.length≤2 ^ depth) (ho:bs.all (fun b=>!b.own)=true):Calls P f rargs w fun e w'=>e=.returned (.bool true)∧Below w.heap.size w w':=by
 refine (run_ok hA h hm ha).mono ?_
 rintro e w' ⟨r,ρ',rfl,hv,hs⟩
 simp only [VR] at hv
 subst hv
 exact ⟨rfl,hs.below (memOf_own hle ho)⟩
end
end AG
