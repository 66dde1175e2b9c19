/- LoopsNames: pieces of the run, each evaluated by itself. Made by program. -/
import Derived.Test.YtbfnoaekfcbbkaaDoorAgLn0
namespace Go.Proofs.YtbfnoaekfcbbkaaDoor
open AG
set_option maxRecDepth 100000
theorem c36 : dOk (dOpsF (runF A 999) p36 s35) s36 g36 = true := by kernel_rfl
end Go.Proofs.YtbfnoaekfcbbkaaDoor
