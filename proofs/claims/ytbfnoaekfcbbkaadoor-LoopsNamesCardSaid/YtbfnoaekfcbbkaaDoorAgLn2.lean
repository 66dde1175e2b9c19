/- LoopsNames: pieces of the run, each evaluated by itself. Made by program. -/
import Derived.Test.YtbfnoaekfcbbkaaDoorAgLn0
namespace Go.Proofs.YtbfnoaekfcbbkaaDoor
open AG
set_option maxRecDepth 100000
theorem c5 : stOk (opsF (runF A 999) p5 s4) s5 = true := by kernel_rfl
end Go.Proofs.YtbfnoaekfcbbkaaDoor
