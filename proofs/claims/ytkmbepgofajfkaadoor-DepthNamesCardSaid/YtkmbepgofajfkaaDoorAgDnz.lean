/- DepthNames: the pieces of the run put together. -/
import Derived.Test.YtkmbepgofajfkaaDoorAgDn1
import Derived.Test.YtkmbepgofajfkaaDoorAgDn2
import Derived.Test.YtkmbepgofajfkaaDoorAgDn3
import Derived.Test.YtkmbepgofajfkaaDoorAgDn4
import Derived.Test.YtkmbepgofajfkaaDoorAgDn5
import Derived.Test.YtkmbepgofajfkaaDoorAgDn6
import Derived.Test.YtkmbepgofajfkaaDoorAgDn7
import Derived.Test.YtkmbepgofajfkaaDoorAgDn8
import Derived.Test.YtkmbepgofajfkaaDoorAgDn9
import Derived.Test.YtkmbepgofajfkaaDoorAgDn10
import Derived.Test.YtkmbepgofajfkaaDoorAgDn11
import Derived.Test.YtkmbepgofajfkaaDoorAgDn12
import Derived.Test.YtkmbepgofajfkaaDoorAgDn13
import Derived.Test.YtkmbepgofajfkaaDoorAgDn14
import Derived.Test.YtkmbepgofajfkaaDoorAgDn15
import Derived.Test.YtkmbepgofajfkaaDoorAgDn16
import Derived.Test.YtkmbepgofajfkaaDoorAgDn17
import Derived.Test.YtkmbepgofajfkaaDoorAgDn18
import Derived.Test.YtkmbepgofajfkaaDoorAgDn19
import Derived.Test.YtkmbepgofajfkaaDoorAgDn20
namespace Go.Proofs.YtkmbepgofajfkaaDoor
open AG
set_option maxRecDepth 100000
theorem body1 : a12.body = (.seq (.reg (p22 ++ ([]))) (.seq (.reg (p23 ++ (p24 ++ ([])))) (.seq (.reg (p25 ++ (p26 ++ (p27 ++ ([]))))) (.seq (.reg (p28 ++ (p29 ++ (p30 ++ (p31 ++ (p32 ++ (p33 ++ (p34 ++ (p35 ++ (p36 ++ ([]))))))))))) .ret)))) := by kernel_rfl
theorem chain1 : codeEv (run A 998) (ev A 998).2 a12.body t1 = some (.ret, s36) := by
  rw [body1]
  exact (seqCut (regCut (opsCut (runF_eq A 998 ▸ c22) opsEnd))
  (seqCut (regCut (opsCut (runF_eq A 998 ▸ c23) (opsCut (runF_eq A 998 ▸ c24) opsEnd)))
  (seqCut (regCut (opsCut (runF_eq A 998 ▸ c25) (opsCut (runF_eq A 998 ▸ c26) (opsCut (runF_eq A 998 ▸ c27) opsEnd))))
  (seqCut (regCut (opsCut (runF_eq A 998 ▸ c28) (opsCut (runF_eq A 998 ▸ c29) (opsCut (runF_eq A 998 ▸ c30) (opsCut (runF_eq A 998 ▸ c31) (opsCut (runF_eq A 998 ▸ c32) (opsCut (runF_eq A 998 ▸ c33) (opsCut (runF_eq A 998 ▸ c34) (opsCut (runF_eq A 998 ▸ c35) (opsCut (runF_eq A 998 ▸ c36) opsEnd))))))))))
  retCut))))
theorem r1 : run A 999 12 [] M10 = some ((.bool true), s36.m) :=
  (run_of (show A 12 = some a12 by kernel_rfl) 998 [] M10).trans (fnCut rfl rfl chain1 (.inl rfl) (by kernel_rfl) rfl)
theorem c37 : dOpsEv (run A 999) p37 s21 = some (s37, g37) := dCallCut r1 (by kernel_rfl) (by kernel_rfl)
theorem body0 : a5.body = (.seq (.reg (p1 ++ ([]))) (.seq (.reg (p2 ++ (p3 ++ ([])))) (.seq (.reg (p4 ++ ([]))) (.seq (.reg (p5 ++ (p6 ++ (p7 ++ ([]))))) (.seq (.reg (p8 ++ (p9 ++ (p10 ++ ([]))))) (.seq (.reg (p11 ++ (p12 ++ (p13 ++ ([]))))) (.seq (.dreg (p14 ++ (p15 ++ (p16 ++ (p17 ++ ([])))))) (.seq (.dreg (p18 ++ (p19 ++ (p20 ++ (p21 ++ ([])))))) (.seq (.dreg (p37 ++ (p38 ++ (p39 ++ (p40 ++ (p41 ++ (p42 ++ (p43 ++ (p44 ++ (p45 ++ (p46 ++ (p47 ++ (p48 ++ ([])))))))))))))) .ret))))))))) := by kernel_rfl
theorem chain0 : codeEv (run A 999) (ev A 999).2 a5.body t0 = some (.ret, s48) := by
  rw [body0]
  exact (seqCut (regCut (opsCut (runF_eq A 999 ▸ c1) opsEnd))
  (seqCut (regCut (opsCut (runF_eq A 999 ▸ c2) (opsCut (runF_eq A 999 ▸ c3) opsEnd)))
  (seqCut (regCut (opsCut (runF_eq A 999 ▸ c4) opsEnd))
  (seqCut (regCut (opsCut (runF_eq A 999 ▸ c5) (opsCut (runF_eq A 999 ▸ c6) (opsCut (runF_eq A 999 ▸ c7) opsEnd))))
  (seqCut (regCut (opsCut (runF_eq A 999 ▸ c8) (opsCut (runF_eq A 999 ▸ c9) (opsCut (runF_eq A 999 ▸ c10) opsEnd))))
  (seqCut (regCut (opsCut (runF_eq A 999 ▸ c11) (opsCut (runF_eq A 999 ▸ c12) (opsCut (runF_eq A 999 ▸ c13) opsEnd))))
  (seqCut (dregCut (dOpsCut (runF_eq A 999 ▸ c14) (dOpsCut (runF_eq A 999 ▸ c15) (dOpsCut (runF_eq A 999 ▸ c16) (dOpsCut (runF_eq A 999 ▸ c17) dOpsEnd)))) (by kernel_rfl))
  (seqCut (dregCut (dOpsCut (runF_eq A 999 ▸ c18) (dOpsCut (runF_eq A 999 ▸ c19) (dOpsCut (runF_eq A 999 ▸ c20) (dOpsCut (runF_eq A 999 ▸ c21) dOpsEnd)))) (by kernel_rfl))
  (seqCut (dregCut (dOpsCutE c37 (dOpsCut (runF_eq A 999 ▸ c38) (dOpsCut (runF_eq A 999 ▸ c39) (dOpsCut (runF_eq A 999 ▸ c40) (dOpsCut (runF_eq A 999 ▸ c41) (dOpsCut (runF_eq A 999 ▸ c42) (dOpsCut (runF_eq A 999 ▸ c43) (dOpsCut (runF_eq A 999 ▸ c44) (dOpsCut (runF_eq A 999 ▸ c45) (dOpsCut (runF_eq A 999 ▸ c46) (dOpsCut (runF_eq A 999 ▸ c47) (dOpsCut (runF_eq A 999 ▸ c48) dOpsEnd)))))))))))) (by kernel_rfl))
  retCut)))))))))
theorem r0 : run A 1000 5 [] M0 = some ((.bool true), s48.m) :=
  (run_of (show A 5 = some a5 by kernel_rfl) 999 [] M0).trans (fnCut rfl rfl chain0 (.inl rfl) (by kernel_rfl) rfl)
theorem runs : isTrue (run A 1000 5 [] (memOf blocks)) = true := by
  have h : run A 1000 5 [] (memOf blocks) = some (.bool true, s48.m) := r0
  rw [h]
  rfl
end Go.Proofs.YtkmbepgofajfkaaDoor
