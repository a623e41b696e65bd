/-
  OWN WORK for VerifyNil: pieces of the run. No condition.
-/
import Derived.Test.YthdjnhmacfmjiaaGreatDoorRows
import Derived.Test.YthdjnhmacfmjiaaGreatDoorCards
import Derived.Test.YthdjnhmacfmjiaaGreatDoorTie
import Derived.Test.YthdjnhmacfmjiaaGreatDoorGlob
import Derived.Test.YthdjnhmacfmjiaaGreatDoorShaE
import Derived.Test.YthdjnhmacfmjiaaGreatDoorAxGc
import Derived.Test.YthdjnhmacfmjiaaGreatDoorAxSt
import Derived.WalkKit
import Derived.ProofKit
import Derived.LaidMore
import Derived.OpenShut
import Derived.ShutString
import Derived.ChangeOld
import Derived.Below
import Derived.SevenTiedAt
import Derived.Stop.Joined
import Derived.Test.YthdjnhmacfmjiaaGreatDoorVnA
namespace Go.Proofs.YthdjnhmacfmjiaaGreatDoor.verifyNil
open Go.ChangeShapes Go.WideShapes Go.ChangeAt Go.RowKit
set_option linter.unusedVariables false

theorem k21n1_5_p0 : Go.Ax.gcB 7 .normal [0, 1, 2, 3, 4, 5, 6] k21n1_5_F0 49 k21n1_5_S0 7 ((Go.Ax.M En (Go.Ax.drawA En) smT 300).ex none m6C0 ({ m := Go.Ax.putArgs k21n1_5_as 0 .e, n := Tryz.f6.ntmps, defs := [] } : Go.Ax.AFr) (Go.Ax.mkSt k21S4 7)) = true := by kernel_rfl
theorem k21n1_5_p1 : Go.Ax.gcB 7 .normal [0, 1, 2, 3, 4, 5, 6, 7, 8, 9] k21n1_5_F1 49 k21n1_5_S1 10 ((Go.Ax.M En (Go.Ax.drawA En) smT 300).ex none m6C1 (Go.Ax.xFr k21n1_5_F0 49) (Go.Ax.mkSt k21n1_5_S0 7)) = true := by kernel_rfl
theorem k21n1_5_p2 : Go.Ax.gcB 7 .normal [0, 1, 2, 3, 4, 5, 6, 7, 8, 9] k21n1_5_F2 49 k21n1_5_S2 10 ((Go.Ax.M En (Go.Ax.drawA En) smT 300).ex none m6C2 (Go.Ax.xFr k21n1_5_F1 49) (Go.Ax.mkSt k21n1_5_S1 10)) = true := by kernel_rfl
theorem k21n1_5_p3 : Go.Ax.gcB 7 .normal [0, 1, 2, 3, 4, 5, 6, 7, 8, 9, 10, 646, 703] k21n1_5_F3 49 k21n1_5_S3 13 ((Go.Ax.M En (Go.Ax.drawA En) smT 300).ex none m6C3 (Go.Ax.xFr k21n1_5_F2 49) (Go.Ax.mkSt k21n1_5_S2 10)) = true := by kernel_rfl
theorem k21n1_5_p4 : Go.Ax.gcB 7 .normal [0, 1, 2, 3, 4, 5, 6, 7, 8, 9, 10, 11, 12] k21n1_5_F4 49 k21n1_5_S4 13 ((Go.Ax.M En (Go.Ax.drawA En) smT 300).ex none m6C4 (Go.Ax.xFr k21n1_5_F3 49) (Go.Ax.mkSt k21n1_5_S3 13)) = true := by kernel_rfl
theorem k21n1_5_p5 : Go.Ax.gcB 7 .normal [0, 1, 2, 3, 4, 5, 6, 7, 8, 9, 10, 11, 12] k21n1_5_F5 49 k21n1_5_S5 13 ((Go.Ax.M En (Go.Ax.drawA En) smT 300).ex none m6C5 (Go.Ax.xFr k21n1_5_F4 49) (Go.Ax.mkSt k21n1_5_S4 13)) = true := by kernel_rfl
theorem k21n1_5_p6 : Go.Ax.gcB 7 .normal [0, 1, 2, 3, 4, 5, 6, 7, 8, 9, 10, 11, 12] k21n1_5_F6 49 k21n1_5_S6 13 ((Go.Ax.M En (Go.Ax.drawA En) smT 300).ex none m6C6 (Go.Ax.xFr k21n1_5_F5 49) (Go.Ax.mkSt k21n1_5_S5 13)) = true := by kernel_rfl
theorem k21n1_5_pE : lastV En Tryz.f6 ((Go.Ax.M En (Go.Ax.drawA En) smT 300).ex none m6C7 (Go.Ax.xFr k21n1_5_F6 49) (Go.Ax.mkSt k21n1_5_S6 13)) = some (k21n1_5_v, (Go.Ax.mkSt k21n1_5_S6 13)) := by kernel_rfl
end Go.Proofs.YthdjnhmacfmjiaaGreatDoor.verifyNil
