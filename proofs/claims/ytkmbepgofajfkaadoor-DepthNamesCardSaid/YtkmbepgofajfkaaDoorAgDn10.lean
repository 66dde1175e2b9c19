/- DepthNames: pieces of the run, each evaluated by itself. Made by program. -/
import Derived.Test.YtkmbepgofajfkaaDoorAgDn0
namespace Go.Proofs.YtkmbepgofajfkaaDoor
open AG
set_option maxRecDepth 100000
theorem c23 : stOk (opsF (runF A 998) p23 s22) s23 = true := by kernel_rfl
end Go.Proofs.YtkmbepgofajfkaaDoor
