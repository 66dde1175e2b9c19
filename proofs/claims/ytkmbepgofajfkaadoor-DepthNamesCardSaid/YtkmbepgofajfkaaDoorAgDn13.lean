/- DepthNames: pieces of the run, each evaluated by itself. Made by program. -/
import Derived.Test.YtkmbepgofajfkaaDoorAgDn0
namespace Go.Proofs.YtkmbepgofajfkaaDoor
open AG
set_option maxRecDepth 100000
theorem c31 : stOk (opsF (runF A 998) p31 s30) s31 = true := by kernel_rfl
end Go.Proofs.YtkmbepgofajfkaaDoor
