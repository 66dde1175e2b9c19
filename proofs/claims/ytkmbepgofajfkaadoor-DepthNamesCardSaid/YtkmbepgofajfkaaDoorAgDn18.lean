/- DepthNames: pieces of the run, each evaluated by itself. Made by program. -/
import Derived.Test.YtkmbepgofajfkaaDoorAgDn0
namespace Go.Proofs.YtkmbepgofajfkaaDoor
open AG
set_option maxRecDepth 100000
theorem c43 : dOk (dOpsF (runF A 999) p43 s42) s43 g43 = true := by kernel_rfl
end Go.Proofs.YtkmbepgofajfkaaDoor
