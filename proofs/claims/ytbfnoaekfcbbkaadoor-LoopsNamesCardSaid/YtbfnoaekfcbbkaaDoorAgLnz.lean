/- LoopsNames: the pieces of the run put together. -/
import Derived.Test.YtbfnoaekfcbbkaaDoorAgLn1
import Derived.Test.YtbfnoaekfcbbkaaDoorAgLn2
import Derived.Test.YtbfnoaekfcbbkaaDoorAgLn3
import Derived.Test.YtbfnoaekfcbbkaaDoorAgLn4
import Derived.Test.YtbfnoaekfcbbkaaDoorAgLn5
import Derived.Test.YtbfnoaekfcbbkaaDoorAgLn6
import Derived.Test.YtbfnoaekfcbbkaaDoorAgLn7
import Derived.Test.YtbfnoaekfcbbkaaDoorAgLn8
import Derived.Test.YtbfnoaekfcbbkaaDoorAgLn9
import Derived.Test.YtbfnoaekfcbbkaaDoorAgLn10
import Derived.Test.YtbfnoaekfcbbkaaDoorAgLn11
import Derived.Test.YtbfnoaekfcbbkaaDoorAgLn12
import Derived.Test.YtbfnoaekfcbbkaaDoorAgLn13
import Derived.Test.YtbfnoaekfcbbkaaDoorAgLn14
import Derived.Test.YtbfnoaekfcbbkaaDoorAgLn15
import Derived.Test.YtbfnoaekfcbbkaaDoorAgLn16
import Derived.Test.YtbfnoaekfcbbkaaDoorAgLn17
namespace Go.Proofs.YtbfnoaekfcbbkaaDoor
open AG
set_option maxRecDepth 100000
theorem body1 : a6.body = (.seq (.reg (p7 ++ ([]))) (.seq (.reg (p8 ++ (p9 ++ ([])))) (.seq (.reg (p10 ++ (p11 ++ (p12 ++ ([]))))) (.seq (.reg (p13 ++ (p14 ++ (p15 ++ (p16 ++ (p17 ++ (p18 ++ (p19 ++ (p20 ++ (p21 ++ (p22 ++ (p23 ++ (p24 ++ (p25 ++ ([]))))))))))))))) .ret)))) := by kernel_rfl
theorem chain1 : codeEv (run A 998) (ev A 998).2 a6.body t1 = some (.ret, s25) := by
  rw [body1]
  exact (seqCut (regCut (opsCut (runF_eq A 998 ▸ c7) opsEnd))
  (seqCut (regCut (opsCut (runF_eq A 998 ▸ c8) (opsCut (runF_eq A 998 ▸ c9) opsEnd)))
  (seqCut (regCut (opsCut (runF_eq A 998 ▸ c10) (opsCut (runF_eq A 998 ▸ c11) (opsCut (runF_eq A 998 ▸ c12) opsEnd))))
  (seqCut (regCut (opsCut (runF_eq A 998 ▸ c13) (opsCut (runF_eq A 998 ▸ c14) (opsCut (runF_eq A 998 ▸ c15) (opsCut (runF_eq A 998 ▸ c16) (opsCut (runF_eq A 998 ▸ c17) (opsCut (runF_eq A 998 ▸ c18) (opsCut (runF_eq A 998 ▸ c19) (opsCut (runF_eq A 998 ▸ c20) (opsCut (runF_eq A 998 ▸ c21) (opsCut (runF_eq A 998 ▸ c22) (opsCut (runF_eq A 998 ▸ c23) (opsCut (runF_eq A 998 ▸ c24) (opsCut (runF_eq A 998 ▸ c25) opsEnd))))))))))))))
  retCut))))
theorem r1 : run A 999 6 [] M2 = some ((.bool true), s25.m) :=
  (run_of (show A 6 = some a6 by kernel_rfl) 998 [] M2).trans (fnCut rfl rfl chain1 (.inl rfl) (by kernel_rfl) rfl)
theorem c26 : dOpsEv (run A 999) p26 s6 = some (s26, g26) := dCallCut r1 (by kernel_rfl) (by kernel_rfl)
theorem body0 : a3.body = (.seq (.reg (p1 ++ ([]))) (.seq (.reg (p2 ++ (p3 ++ ([])))) (.seq (.reg (p4 ++ (p5 ++ (p6 ++ ([]))))) (.seq (.dreg (p26 ++ (p27 ++ (p28 ++ (p29 ++ (p30 ++ (p31 ++ (p32 ++ (p33 ++ (p34 ++ (p35 ++ (p36 ++ (p37 ++ (p38 ++ (p39 ++ (p40 ++ (p41 ++ ([])))))))))))))))))) .ret)))) := by kernel_rfl
theorem chain0 : codeEv (run A 999) (ev A 999).2 a3.body t0 = some (.ret, s41) := by
  rw [body0]
  exact (seqCut (regCut (opsCut (runF_eq A 999 ▸ c1) opsEnd))
  (seqCut (regCut (opsCut (runF_eq A 999 ▸ c2) (opsCut (runF_eq A 999 ▸ c3) opsEnd)))
  (seqCut (regCut (opsCut (runF_eq A 999 ▸ c4) (opsCut (runF_eq A 999 ▸ c5) (opsCut (runF_eq A 999 ▸ c6) opsEnd))))
  (seqCut (dregCut (dOpsCutE c26 (dOpsCut (runF_eq A 999 ▸ c27) (dOpsCut (runF_eq A 999 ▸ c28) (dOpsCut (runF_eq A 999 ▸ c29) (dOpsCut (runF_eq A 999 ▸ c30) (dOpsCut (runF_eq A 999 ▸ c31) (dOpsCut (runF_eq A 999 ▸ c32) (dOpsCut (runF_eq A 999 ▸ c33) (dOpsCut (runF_eq A 999 ▸ c34) (dOpsCut (runF_eq A 999 ▸ c35) (dOpsCut (runF_eq A 999 ▸ c36) (dOpsCut (runF_eq A 999 ▸ c37) (dOpsCut (runF_eq A 999 ▸ c38) (dOpsCut (runF_eq A 999 ▸ c39) (dOpsCut (runF_eq A 999 ▸ c40) (dOpsCut (runF_eq A 999 ▸ c41) dOpsEnd)))))))))))))))) (by kernel_rfl))
  retCut))))
theorem r0 : run A 1000 3 [] M0 = some ((.bool true), s41.m) :=
  (run_of (show A 3 = some a3 by kernel_rfl) 999 [] M0).trans (fnCut rfl rfl chain0 (.inl rfl) (by kernel_rfl) rfl)
theorem runs : isTrue (run A 1000 3 [] (memOf blocks)) = true := by
  have h : run A 1000 3 [] (memOf blocks) = some (.bool true, s41.m) := r0
  rw [h]
  rfl
end Go.Proofs.YtbfnoaekfcbbkaaDoor
