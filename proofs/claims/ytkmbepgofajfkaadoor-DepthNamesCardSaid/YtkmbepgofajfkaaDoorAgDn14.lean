/- DepthNames: pieces of the run, each evaluated by itself. Made by program. -/
import Derived.Test.YtkmbepgofajfkaaDoorAgDn0
namespace Go.Proofs.YtkmbepgofajfkaaDoor
open AG
set_option maxRecDepth 100000
theorem c33 : stOk (opsF (runF A 998) p33 s32) s33 = true := by kernel_rfl
end Go.Proofs.YtkmbepgofajfkaaDoor
