/- DepthNames: pieces of the run, each evaluated by itself. Made by program. -/
import Derived.Test.YtkmbepgofajfkaaDoorAgDn0
namespace Go.Proofs.YtkmbepgofajfkaaDoor
open AG
set_option maxRecDepth 100000
theorem c18 : dOk (dOpsF (runF A 999) p18 s17) s18 g18 = true := by kernel_rfl
end Go.Proofs.YtkmbepgofajfkaaDoor
