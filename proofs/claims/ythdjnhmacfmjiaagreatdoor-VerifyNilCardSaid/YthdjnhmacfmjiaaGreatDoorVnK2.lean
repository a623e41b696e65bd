/-
  OWN WORK for VerifyNil: pieces of the run. No condition.
-/
import Derived.Test.YthdjnhmacfmjiaaGreatDoorRows
import Derived.Test.YthdjnhmacfmjiaaGreatDoorCards
import Derived.Test.YthdjnhmacfmjiaaGreatDoorTie
import Derived.Test.YthdjnhmacfmjiaaGreatDoorGlob
import Derived.Test.YthdjnhmacfmjiaaGreatDoorShaE
import Derived.Test.YthdjnhmacfmjiaaGreatDoorAxGc
import Derived.Test.YthdjnhmacfmjiaaGreatDoorAxSt
import Derived.WalkKit
import Derived.ProofKit
import Derived.LaidMore
import Derived.OpenShut
import Derived.ShutString
import Derived.ChangeOld
import Derived.Below
import Derived.SevenTiedAt
import Derived.Stop.Joined
import Derived.Test.YthdjnhmacfmjiaaGreatDoorVnA
namespace Go.Proofs.YthdjnhmacfmjiaaGreatDoor.verifyNil
open Go.ChangeShapes Go.WideShapes Go.ChangeAt Go.RowKit
set_option linter.unusedVariables false

theorem k21n1_2_p0 : Go.Ax.gcB 1 .normal [0] k21n1_2_F0 49 k21n1_2_S0 1 ((Go.Ax.M En (Go.Ax.drawA En) smT 300).ex none m6C0 ({ m := Go.Ax.putArgs k21n1_2_as 0 .e, n := Tryz.f6.ntmps, defs := [] } : Go.Ax.AFr) (Go.Ax.mkSt k21S2 1)) = true := by kernel_rfl
theorem k21n1_2_p1 : Go.Ax.gcB 1 .normal [0, 1, 2, 3] k21n1_2_F1 49 k21n1_2_S1 4 ((Go.Ax.M En (Go.Ax.drawA En) smT 300).ex none m6C1 (Go.Ax.xFr k21n1_2_F0 49) (Go.Ax.mkSt k21n1_2_S0 1)) = true := by kernel_rfl
theorem k21n1_2_p2 : Go.Ax.gcB 1 .normal [0, 1, 2, 3] k21n1_2_F2 49 k21n1_2_S2 4 ((Go.Ax.M En (Go.Ax.drawA En) smT 300).ex none m6C2 (Go.Ax.xFr k21n1_2_F1 49) (Go.Ax.mkSt k21n1_2_S1 4)) = true := by kernel_rfl
theorem k21n1_2_p3 : Go.Ax.gcB 1 .normal [0, 1, 2, 3, 4, 640, 697] k21n1_2_F3 49 k21n1_2_S3 7 ((Go.Ax.M En (Go.Ax.drawA En) smT 300).ex none m6C3 (Go.Ax.xFr k21n1_2_F2 49) (Go.Ax.mkSt k21n1_2_S2 4)) = true := by kernel_rfl
theorem k21n1_2_p4 : Go.Ax.gcB 1 .normal [0, 1, 2, 3, 4, 5, 6] k21n1_2_F4 49 k21n1_2_S4 7 ((Go.Ax.M En (Go.Ax.drawA En) smT 300).ex none m6C4 (Go.Ax.xFr k21n1_2_F3 49) (Go.Ax.mkSt k21n1_2_S3 7)) = true := by kernel_rfl
theorem k21n1_2_p5 : Go.Ax.gcB 1 .normal [0, 1, 2, 3, 4, 5, 6] k21n1_2_F5 49 k21n1_2_S5 7 ((Go.Ax.M En (Go.Ax.drawA En) smT 300).ex none m6C5 (Go.Ax.xFr k21n1_2_F4 49) (Go.Ax.mkSt k21n1_2_S4 7)) = true := by kernel_rfl
theorem k21n1_2_p6 : Go.Ax.gcB 1 .normal [0, 1, 2, 3, 4, 5, 6] k21n1_2_F6 49 k21n1_2_S6 7 ((Go.Ax.M En (Go.Ax.drawA En) smT 300).ex none m6C6 (Go.Ax.xFr k21n1_2_F5 49) (Go.Ax.mkSt k21n1_2_S5 7)) = true := by kernel_rfl
theorem k21n1_2_pE : lastV En Tryz.f6 ((Go.Ax.M En (Go.Ax.drawA En) smT 300).ex none m6C7 (Go.Ax.xFr k21n1_2_F6 49) (Go.Ax.mkSt k21n1_2_S6 7)) = some (k21n1_2_v, (Go.Ax.mkSt k21n1_2_S6 7)) := by kernel_rfl
end Go.Proofs.YthdjnhmacfmjiaaGreatDoor.verifyNil
