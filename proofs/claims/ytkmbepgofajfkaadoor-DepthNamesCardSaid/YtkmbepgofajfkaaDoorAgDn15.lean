/- DepthNames: pieces of the run, each evaluated by itself. Made by program. -/
import Derived.Test.YtkmbepgofajfkaaDoorAgDn0
namespace Go.Proofs.YtkmbepgofajfkaaDoor
open AG
set_option maxRecDepth 100000
theorem c35 : stOk (opsF (runF A 998) p35 s34) s35 = true := by kernel_rfl
end Go.Proofs.YtkmbepgofajfkaaDoor
