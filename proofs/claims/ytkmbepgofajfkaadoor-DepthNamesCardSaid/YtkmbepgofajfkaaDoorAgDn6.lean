/- DepthNames: pieces of the run, each evaluated by itself. Made by program. -/
import Derived.Test.YtkmbepgofajfkaaDoorAgDn0
namespace Go.Proofs.YtkmbepgofajfkaaDoor
open AG
set_option maxRecDepth 100000
theorem c14 : dOk (dOpsF (runF A 999) p14 s13) s14 g14 = true := by kernel_rfl
end Go.Proofs.YtkmbepgofajfkaaDoor
