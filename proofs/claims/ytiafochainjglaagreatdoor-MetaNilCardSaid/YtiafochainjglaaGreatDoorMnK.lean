/-
  OWN WORK, A PART: an abstract machine for the program's text that the kernel can run, and the proof that it is sound: what it answers is what the program answers; contracts of functions by it. No condition.
-/
import Derived.Test.YtiafochainjglaaGreatDoorRows
import Derived.Test.YtiafochainjglaaGreatDoorCards
import Derived.Test.YtiafochainjglaaGreatDoorTie
import Derived.Test.YtiafochainjglaaGreatDoorWmA
import Derived.Test.YtiafochainjglaaGreatDoorShaE
import Derived.Test.YtiafochainjglaaGreatDoorWaF
import Derived.WalkKit
import Derived.ProofKit
import Derived.LaidMore
import Derived.OpenShut
import Derived.ShutString
import Derived.ChangeOld
import Derived.Below
import Derived.SevenTiedAt
import Derived.Stop.Joined
import Derived.Lay
import Derived.Test.YtiafochainjglaaGreatDoorMnA
section
namespace Go.Proofs.YtiafochainjglaaGreatDoor.metaNil
open Go.ChangeShapes Go.WideShapes Go.ChangeAt Go.RowKit
set_option linter.unusedVariables false
theorem k9p1 : Go.Ax.gcB 0 .normal [] k9F1 29 k9S1 0 ((Go.Ax.M En (Go.Ax.drawA En) smT 300).ex none k9C0 ({ m := .e, n := Tryz.f9.ntmps, defs := [] } : Go.Ax.AFr) Go.Ax.st0) = true := by kernel_rfl
theorem k9p2 : Go.Ax.gcB 0 .normal [0, 1, 2] k9F2 29 k9S2 3 ((Go.Ax.M En (Go.Ax.drawA En) smT 300).ex none k9C1 (Go.Ax.xFr k9F1 29) (Go.Ax.mkSt k9S1 0)) = true := by kernel_rfl
theorem k9p3 : Go.Ax.gcB 0 .normal [0, 1, 2] k9F3 29 k9S3 3 ((Go.Ax.M En (Go.Ax.drawA En) smT 300).ex none k9C2 (Go.Ax.xFr k9F2 29) (Go.Ax.mkSt k9S2 3)) = true := by kernel_rfl
theorem k9p4 : Go.Ax.gcB 0 .normal [709] k9F4 29 k9S4 1 ((Go.Ax.M En (Go.Ax.drawA En) smT 300).ex none k9C3 (Go.Ax.xFr k9F3 29) (Go.Ax.mkSt k9S3 3)) = true := by kernel_rfl
theorem k9p5 : Go.Ax.gcB 0 .normal [] k9F5 29 k9S5 0 ((Go.Ax.M En (Go.Ax.drawA En) smT 300).ex none k9C4 (Go.Ax.xFr k9F4 29) (Go.Ax.mkSt k9S4 1)) = true := by kernel_rfl
theorem k9p6 : Go.Ax.gcB 0 .normal [] k9F6 29 k9S6 0 ((Go.Ax.M En (Go.Ax.drawA En) smT 300).ex none k9C5 (Go.Ax.xFr k9F5 29) (Go.Ax.mkSt k9S5 0)) = true := by kernel_rfl
theorem k9pE : Go.Ax.lastB En Tryz.f9 ((Go.Ax.M En (Go.Ax.drawA En) smT 300).ex none k9C6 (Go.Ax.xFr k9F6 29) (Go.Ax.mkSt k9S6 0)) = true := by kernel_rfl
end Go.Proofs.YtiafochainjglaaGreatDoor.metaNil
end

section
namespace Go.Proofs.YtiafochainjglaaGreatDoor.metaNil
open Go.ChangeShapes Go.WideShapes Go.ChangeAt Go.RowKit
set_option linter.unusedVariables false
theorem p1 : Go.Ax.gcB 0 .normal [] F1 123 S1 0 ((Go.Ax.M En (Go.Ax.drawA En) sm9 300).ex none C0 ({ m := .e, n := Tryz.f4.ntmps, defs := [] } : Go.Ax.AFr) Go.Ax.st0) = true := by kernel_rfl
theorem p2 : Go.Ax.gcB 0 .normal [] F2 123 S2 0 ((Go.Ax.M En (Go.Ax.drawA En) sm9 300).ex none C1 (Go.Ax.xFr F1 123) (Go.Ax.mkSt S1 0)) = true := by kernel_rfl
theorem p3 : Go.Ax.gcB 0 .normal [0, 1, 2] F3 123 S3 3 ((Go.Ax.M En (Go.Ax.drawA En) sm9 300).ex none C2 (Go.Ax.xFr F2 123) (Go.Ax.mkSt S2 0)) = true := by kernel_rfl
theorem p4 : Go.Ax.gcB 0 .normal [0, 1, 2] F4 123 S4 3 ((Go.Ax.M En (Go.Ax.drawA En) sm9 300).ex none C3 (Go.Ax.xFr F3 123) (Go.Ax.mkSt S3 3)) = true := by kernel_rfl
theorem p5 : Go.Ax.gcB 0 .normal [0, 1, 2, 3, 4, 5] F5 123 S5 6 ((Go.Ax.M En (Go.Ax.drawA En) sm9 300).ex none C4 (Go.Ax.xFr F4 123) (Go.Ax.mkSt S4 3)) = true := by kernel_rfl
theorem p6 : Go.Ax.gcB 0 .normal [0, 1, 2, 3, 4, 5] F6 123 S6 6 ((Go.Ax.M En (Go.Ax.drawA En) sm9 300).ex none C5 (Go.Ax.xFr F5 123) (Go.Ax.mkSt S5 6)) = true := by kernel_rfl
theorem p7 : Go.Ax.gcB 0 .normal [0, 1, 2, 3, 4, 5, 712] F7 123 S7 7 ((Go.Ax.M En (Go.Ax.drawA En) sm9 300).ex none C6 (Go.Ax.xFr F6 123) (Go.Ax.mkSt S6 6)) = true := by kernel_rfl
theorem p8 : Go.Ax.gcB 0 .normal [0, 1, 2, 3, 4, 5, 6] F8 123 S8 7 ((Go.Ax.M En (Go.Ax.drawA En) sm9 300).ex none C7 (Go.Ax.xFr F7 123) (Go.Ax.mkSt S7 7)) = true := by kernel_rfl
end Go.Proofs.YtiafochainjglaaGreatDoor.metaNil
end
