/- LoopsNames: pieces of the run, each evaluated by itself. Made by program. -/
import Derived.Test.YtbfnoaekfcbbkaaDoorAgLn0
namespace Go.Proofs.YtbfnoaekfcbbkaaDoor
open AG
set_option maxRecDepth 100000
theorem c2 : stOk (opsF (runF A 999) p2 s1) s2 = true := by kernel_rfl
theorem c1 : stOk (opsF (runF A 999) p1 t0) s1 = true := by kernel_rfl
theorem c3 : stOk (opsF (runF A 999) p3 s2) s3 = true := by kernel_rfl
theorem c4 : stOk (opsF (runF A 999) p4 s3) s4 = true := by kernel_rfl
theorem c6 : stOk (opsF (runF A 999) p6 s5) s6 = true := by kernel_rfl
theorem c7 : stOk (opsF (runF A 998) p7 t1) s7 = true := by kernel_rfl
theorem c9 : stOk (opsF (runF A 998) p9 s8) s9 = true := by kernel_rfl
theorem c10 : stOk (opsF (runF A 998) p10 s9) s10 = true := by kernel_rfl
theorem c12 : stOk (opsF (runF A 998) p12 s11) s12 = true := by kernel_rfl
theorem c13 : stOk (opsF (runF A 998) p13 s12) s13 = true := by kernel_rfl
theorem c15 : stOk (opsF (runF A 998) p15 s14) s15 = true := by kernel_rfl
theorem c17 : stOk (opsF (runF A 998) p17 s16) s17 = true := by kernel_rfl
theorem c19 : stOk (opsF (runF A 998) p19 s18) s19 = true := by kernel_rfl
theorem c21 : stOk (opsF (runF A 998) p21 s20) s21 = true := by kernel_rfl
theorem c23 : stOk (opsF (runF A 998) p23 s22) s23 = true := by kernel_rfl
theorem c25 : stOk (opsF (runF A 998) p25 s24) s25 = true := by kernel_rfl
theorem c27 : dOk (dOpsF (runF A 999) p27 s26) s27 g27 = true := by kernel_rfl
theorem c29 : dOk (dOpsF (runF A 999) p29 s28) s29 g29 = true := by kernel_rfl
theorem c31 : dOk (dOpsF (runF A 999) p31 s30) s31 g31 = true := by kernel_rfl
theorem c33 : dOk (dOpsF (runF A 999) p33 s32) s33 g33 = true := by kernel_rfl
theorem c35 : dOk (dOpsF (runF A 999) p35 s34) s35 g35 = true := by kernel_rfl
theorem c37 : dOk (dOpsF (runF A 999) p37 s36) s37 g37 = true := by kernel_rfl
theorem c39 : dOk (dOpsF (runF A 999) p39 s38) s39 g39 = true := by kernel_rfl
theorem c41 : dOk (dOpsF (runF A 999) p41 s40) s41 g41 = true := by kernel_rfl
end Go.Proofs.YtbfnoaekfcbbkaaDoor
