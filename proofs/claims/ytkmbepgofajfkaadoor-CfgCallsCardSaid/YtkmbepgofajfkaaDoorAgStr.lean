/- The abstract machine, part 23: strconv.Itoa and strings.Join by their contracts. -/
import Derived.Test.YtkmbepgofajfkaaDoorAgBack
import Derived.Lib.ItoaNum
import Derived.Lib.Join
import Derived.Lib.LaidTab
namespace AG
noncomputable section
open Go Go.RowKit
theorem MStep.newer {P:Program} {ρ:Rho} {m:Mem} {w w':World} (hm:MR P ρ m w) (hb:Below w.heap.size w w') (hd:w.drawn≤w'.drawn:=by first | exact Nat.le_refl _ | exact Nat.le_add_right _ _ | exact Nat.le_trans (Nat.le_succ _) (Nat.le_succ _) | simp):MStep P ρ m w ρ m w':=
 ⟨hm.of_heap (fun _ hk=>hb.block _ (AliveM.lt hm hk)),ρ.le_refl,⟨hb.os,hb.tape,hb.output,hb.size,fun k hk _=>hb.block k hk,fun _ h=>.inl h,fun _ h=>.inl h,hd⟩⟩
end
end AG
