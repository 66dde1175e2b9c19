/- LoopsNames: pieces of the run, each evaluated by itself. Made by program. -/
import Derived.Test.YtbfnoaekfcbbkaaDoorAgLn0
namespace Go.Proofs.YtbfnoaekfcbbkaaDoor
open AG
set_option maxRecDepth 100000
theorem c8 : stOk (opsF (runF A 998) p8 s7) s8 = true := by kernel_rfl
end Go.Proofs.YtbfnoaekfcbbkaaDoor
