/- LoopsNames: pieces of the run, each evaluated by itself. Made by program. -/
import Derived.Test.YtbfnoaekfcbbkaaDoorAgLn0
namespace Go.Proofs.YtbfnoaekfcbbkaaDoor
open AG
set_option maxRecDepth 100000
theorem c22 : stOk (opsF (runF A 998) p22 s21) s22 = true := by kernel_rfl
end Go.Proofs.YtbfnoaekfcbbkaaDoor
