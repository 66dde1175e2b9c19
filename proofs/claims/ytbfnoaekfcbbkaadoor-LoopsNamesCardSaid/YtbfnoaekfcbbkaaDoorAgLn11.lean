/- LoopsNames: pieces of the run, each evaluated by itself. Made by program. -/
import Derived.Test.YtbfnoaekfcbbkaaDoorAgLn0
namespace Go.Proofs.YtbfnoaekfcbbkaaDoor
open AG
set_option maxRecDepth 100000
theorem c28 : dOk (dOpsF (runF A 999) p28 s27) s28 g28 = true := by kernel_rfl
end Go.Proofs.YtbfnoaekfcbbkaaDoor
