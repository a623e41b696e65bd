/-
  OWN WORK for VerifyNil: pieces of the run. No condition.
-/
import Derived.Test.YthdjnhmacfmjiaaGreatDoorRows
import Derived.Test.YthdjnhmacfmjiaaGreatDoorCards
import Derived.Test.YthdjnhmacfmjiaaGreatDoorTie
import Derived.Test.YthdjnhmacfmjiaaGreatDoorGlob
import Derived.Test.YthdjnhmacfmjiaaGreatDoorShaE
import Derived.Test.YthdjnhmacfmjiaaGreatDoorAxGc
import Derived.Test.YthdjnhmacfmjiaaGreatDoorAxSt
import Derived.WalkKit
import Derived.ProofKit
import Derived.LaidMore
import Derived.OpenShut
import Derived.ShutString
import Derived.ChangeOld
import Derived.Below
import Derived.SevenTiedAt
import Derived.Stop.Joined
import Derived.Test.YthdjnhmacfmjiaaGreatDoorVnA
namespace Go.Proofs.YthdjnhmacfmjiaaGreatDoor.verifyNil
open Go.ChangeShapes Go.WideShapes Go.ChangeAt Go.RowKit
set_option linter.unusedVariables false

theorem n3_2_p0 : Go.Ax.gcB 2 .normal [0, 1] n3_2_F0 49 n3_2_S0 2 ((Go.Ax.M En (Go.Ax.drawA En) sm21 300).ex none m6C0 ({ m := Go.Ax.putArgs n3_2_as 0 .e, n := Tryz.f6.ntmps, defs := [] } : Go.Ax.AFr) (Go.Ax.mkSt S4 2)) = true := by kernel_rfl
theorem n3_2_p1 : Go.Ax.gcB 2 .normal [0, 1, 2, 3, 4] n3_2_F1 49 n3_2_S1 5 ((Go.Ax.M En (Go.Ax.drawA En) sm21 300).ex none m6C1 (Go.Ax.xFr n3_2_F0 49) (Go.Ax.mkSt n3_2_S0 2)) = true := by kernel_rfl
theorem n3_2_p2 : Go.Ax.gcB 2 .normal [0, 1, 2, 3, 4] n3_2_F2 49 n3_2_S2 5 ((Go.Ax.M En (Go.Ax.drawA En) sm21 300).ex none m6C2 (Go.Ax.xFr n3_2_F1 49) (Go.Ax.mkSt n3_2_S1 5)) = true := by kernel_rfl
theorem n3_2_p3 : Go.Ax.gcB 2 .normal [0, 1, 2, 3, 4, 5, 641, 698] n3_2_F3 49 n3_2_S3 8 ((Go.Ax.M En (Go.Ax.drawA En) sm21 300).ex none m6C3 (Go.Ax.xFr n3_2_F2 49) (Go.Ax.mkSt n3_2_S2 5)) = true := by kernel_rfl
theorem n3_2_p4 : Go.Ax.gcB 2 .normal [0, 1, 2, 3, 4, 5, 6, 7] n3_2_F4 49 n3_2_S4 8 ((Go.Ax.M En (Go.Ax.drawA En) sm21 300).ex none m6C4 (Go.Ax.xFr n3_2_F3 49) (Go.Ax.mkSt n3_2_S3 8)) = true := by kernel_rfl
theorem n3_2_p5 : Go.Ax.gcB 2 .normal [0, 1, 2, 3, 4, 5, 6, 7] n3_2_F5 49 n3_2_S5 8 ((Go.Ax.M En (Go.Ax.drawA En) sm21 300).ex none m6C5 (Go.Ax.xFr n3_2_F4 49) (Go.Ax.mkSt n3_2_S4 8)) = true := by kernel_rfl
theorem n3_2_p6 : Go.Ax.gcB 2 .normal [0, 1, 2, 3, 4, 5, 6, 7] n3_2_F6 49 n3_2_S6 8 ((Go.Ax.M En (Go.Ax.drawA En) sm21 300).ex none m6C6 (Go.Ax.xFr n3_2_F5 49) (Go.Ax.mkSt n3_2_S5 8)) = true := by kernel_rfl
theorem n3_2_pE : lastV En Tryz.f6 ((Go.Ax.M En (Go.Ax.drawA En) sm21 300).ex none m6C7 (Go.Ax.xFr n3_2_F6 49) (Go.Ax.mkSt n3_2_S6 8)) = some (n3_2_v, (Go.Ax.mkSt n3_2_S6 8)) := by kernel_rfl
end Go.Proofs.YthdjnhmacfmjiaaGreatDoor.verifyNil
