/- DepthNames: pieces of the run, each evaluated by itself. Made by program. -/
import Derived.Test.YtkmbepgofajfkaaDoorAgDn0
namespace Go.Proofs.YtkmbepgofajfkaaDoor
open AG
set_option maxRecDepth 100000
theorem c6 : stOk (opsF (runF A 999) p6 s5) s6 = true := by kernel_rfl
end Go.Proofs.YtkmbepgofajfkaaDoor
