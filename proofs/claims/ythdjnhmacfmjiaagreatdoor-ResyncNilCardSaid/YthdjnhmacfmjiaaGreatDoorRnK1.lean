/-
  OWN WORK for ResyncNil: pieces of the run. No condition.
-/
import Derived.Test.YthdjnhmacfmjiaaGreatDoorRows
import Derived.Test.YthdjnhmacfmjiaaGreatDoorCards
import Derived.Test.YthdjnhmacfmjiaaGreatDoorTie
import Derived.Test.YthdjnhmacfmjiaaGreatDoorGlob
import Derived.Test.YthdjnhmacfmjiaaGreatDoorShaE
import Derived.Test.YthdjnhmacfmjiaaGreatDoorAxGc
import Derived.Test.YthdjnhmacfmjiaaGreatDoorAxSt
import Derived.WalkKit
import Derived.ProofKit
import Derived.LaidMore
import Derived.OpenShut
import Derived.ShutString
import Derived.ChangeOld
import Derived.Below
import Derived.SevenTiedAt
import Derived.Stop.Joined
import Derived.Test.YthdjnhmacfmjiaaGreatDoorRnA
namespace Go.Proofs.YthdjnhmacfmjiaaGreatDoor.resyncNil
open Go.ChangeShapes Go.WideShapes Go.ChangeAt Go.RowKit
set_option linter.unusedVariables false

theorem k22n1_1_p0 : Go.Ax.gcB 1 .normal [0] k22n1_1_F0 49 k22n1_1_S0 1 ((Go.Ax.M En (Go.Ax.drawA En) smT 300).ex none m23C0 ({ m := Go.Ax.putArgs k22n1_1_as 0 .e, n := Tryz.f23.ntmps, defs := [] } : Go.Ax.AFr) (Go.Ax.mkSt k22S2 1)) = true := by kernel_rfl
theorem k22n1_1_p1 : Go.Ax.gcB 1 .normal [0, 1, 2, 3] k22n1_1_F1 49 k22n1_1_S1 4 ((Go.Ax.M En (Go.Ax.drawA En) smT 300).ex none m23C1 (Go.Ax.xFr k22n1_1_F0 49) (Go.Ax.mkSt k22n1_1_S0 1)) = true := by kernel_rfl
theorem k22n1_1_p2 : Go.Ax.gcB 1 .normal [0, 1, 2, 3] k22n1_1_F2 49 k22n1_1_S2 4 ((Go.Ax.M En (Go.Ax.drawA En) smT 300).ex none m23C2 (Go.Ax.xFr k22n1_1_F1 49) (Go.Ax.mkSt k22n1_1_S1 4)) = true := by kernel_rfl
theorem k22n1_1_p3 : Go.Ax.gcB 1 .normal [0, 1, 2, 3, 4, 640, 697] k22n1_1_F3 49 k22n1_1_S3 7 ((Go.Ax.M En (Go.Ax.drawA En) smT 300).ex none m23C3 (Go.Ax.xFr k22n1_1_F2 49) (Go.Ax.mkSt k22n1_1_S2 4)) = true := by kernel_rfl
theorem k22n1_1_p4 : Go.Ax.gcB 1 .normal [0, 1, 2, 3, 4, 5, 6] k22n1_1_F4 49 k22n1_1_S4 7 ((Go.Ax.M En (Go.Ax.drawA En) smT 300).ex none m23C4 (Go.Ax.xFr k22n1_1_F3 49) (Go.Ax.mkSt k22n1_1_S3 7)) = true := by kernel_rfl
theorem k22n1_1_p5 : Go.Ax.gcB 1 .normal [0, 1, 2, 3, 4, 5, 6] k22n1_1_F5 49 k22n1_1_S5 7 ((Go.Ax.M En (Go.Ax.drawA En) smT 300).ex none m23C5 (Go.Ax.xFr k22n1_1_F4 49) (Go.Ax.mkSt k22n1_1_S4 7)) = true := by kernel_rfl
theorem k22n1_1_p6 : Go.Ax.gcB 1 .normal [0, 1, 2, 3, 4, 5, 6] k22n1_1_F6 49 k22n1_1_S6 7 ((Go.Ax.M En (Go.Ax.drawA En) smT 300).ex none m23C6 (Go.Ax.xFr k22n1_1_F5 49) (Go.Ax.mkSt k22n1_1_S5 7)) = true := by kernel_rfl
theorem k22n1_1_pE : lastV En Tryz.f23 ((Go.Ax.M En (Go.Ax.drawA En) smT 300).ex none m23C7 (Go.Ax.xFr k22n1_1_F6 49) (Go.Ax.mkSt k22n1_1_S6 7)) = some (k22n1_1_v, (Go.Ax.mkSt k22n1_1_S6 7)) := by kernel_rfl
end Go.Proofs.YthdjnhmacfmjiaaGreatDoor.resyncNil
