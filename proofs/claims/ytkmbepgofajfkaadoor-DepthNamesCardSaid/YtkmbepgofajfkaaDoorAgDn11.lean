/- DepthNames: pieces of the run, each evaluated by itself. Made by program. -/
import Derived.Test.YtkmbepgofajfkaaDoorAgDn0
namespace Go.Proofs.YtkmbepgofajfkaaDoor
open AG
set_option maxRecDepth 100000
theorem c26 : stOk (opsF (runF A 998) p26 s25) s26 = true := by kernel_rfl
end Go.Proofs.YtkmbepgofajfkaaDoor
