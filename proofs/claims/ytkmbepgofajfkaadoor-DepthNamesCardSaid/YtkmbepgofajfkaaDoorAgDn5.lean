/- DepthNames: pieces of the run, each evaluated by itself. Made by program. -/
import Derived.Test.YtkmbepgofajfkaaDoorAgDn0
namespace Go.Proofs.YtkmbepgofajfkaaDoor
open AG
set_option maxRecDepth 100000
theorem c12 : stOk (opsF (runF A 999) p12 s11) s12 = true := by kernel_rfl
end Go.Proofs.YtkmbepgofajfkaaDoor
