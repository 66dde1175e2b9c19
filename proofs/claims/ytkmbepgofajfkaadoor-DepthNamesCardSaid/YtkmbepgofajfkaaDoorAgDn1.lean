/- DepthNames: pieces of the run, each evaluated by itself. Made by program. -/
import Derived.Test.YtkmbepgofajfkaaDoorAgDn0
namespace Go.Proofs.YtkmbepgofajfkaaDoor
open AG
set_option maxRecDepth 100000
theorem c2 : stOk (opsF (runF A 999) p2 s1) s2 = true := by kernel_rfl
theorem c1 : stOk (opsF (runF A 999) p1 t0) s1 = true := by kernel_rfl
theorem c3 : stOk (opsF (runF A 999) p3 s2) s3 = true := by kernel_rfl
theorem c4 : stOk (opsF (runF A 999) p4 s3) s4 = true := by kernel_rfl
theorem c5 : stOk (opsF (runF A 999) p5 s4) s5 = true := by kernel_rfl
theorem c7 : stOk (opsF (runF A 999) p7 s6) s7 = true := by kernel_rfl
theorem c8 : stOk (opsF (runF A 999) p8 s7) s8 = true := by kernel_rfl
theorem c10 : stOk (opsF (runF A 999) p10 s9) s10 = true := by kernel_rfl
theorem c13 : stOk (opsF (runF A 999) p13 s12) s13 = true := by kernel_rfl
theorem c15 : dOk (dOpsF (runF A 999) p15 s14) s15 g15 = true := by kernel_rfl
theorem c17 : dOk (dOpsF (runF A 999) p17 s16) s17 g17 = true := by kernel_rfl
theorem c19 : dOk (dOpsF (runF A 999) p19 s18) s19 g19 = true := by kernel_rfl
theorem c21 : dOk (dOpsF (runF A 999) p21 s20) s21 g21 = true := by kernel_rfl
theorem c22 : stOk (opsF (runF A 998) p22 t1) s22 = true := by kernel_rfl
theorem c24 : stOk (opsF (runF A 998) p24 s23) s24 = true := by kernel_rfl
theorem c25 : stOk (opsF (runF A 998) p25 s24) s25 = true := by kernel_rfl
theorem c27 : stOk (opsF (runF A 998) p27 s26) s27 = true := by kernel_rfl
theorem c28 : stOk (opsF (runF A 998) p28 s27) s28 = true := by kernel_rfl
theorem c30 : stOk (opsF (runF A 998) p30 s29) s30 = true := by kernel_rfl
theorem c32 : stOk (opsF (runF A 998) p32 s31) s32 = true := by kernel_rfl
theorem c34 : stOk (opsF (runF A 998) p34 s33) s34 = true := by kernel_rfl
theorem c36 : stOk (opsF (runF A 998) p36 s35) s36 = true := by kernel_rfl
theorem c38 : dOk (dOpsF (runF A 999) p38 s37) s38 g38 = true := by kernel_rfl
theorem c40 : dOk (dOpsF (runF A 999) p40 s39) s40 g40 = true := by kernel_rfl
theorem c42 : dOk (dOpsF (runF A 999) p42 s41) s42 g42 = true := by kernel_rfl
theorem c44 : dOk (dOpsF (runF A 999) p44 s43) s44 g44 = true := by kernel_rfl
theorem c46 : dOk (dOpsF (runF A 999) p46 s45) s46 g46 = true := by kernel_rfl
theorem c48 : dOk (dOpsF (runF A 999) p48 s47) s48 g48 = true := by kernel_rfl
end Go.Proofs.YtkmbepgofajfkaaDoor
