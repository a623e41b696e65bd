/-
  OWN WORK, A PART: an abstract machine for the program's text that the kernel can run, and the proof that it is sound: what it answers is what the program answers; contracts of functions by it. No condition.
-/
import Derived.Test.YtiafochainjglaaGreatDoorRows
import Derived.Test.YtiafochainjglaaGreatDoorCards
import Derived.Test.YtiafochainjglaaGreatDoorTie
import Derived.Test.YtiafochainjglaaGreatDoorWmA
import Derived.Test.YtiafochainjglaaGreatDoorShaE
import Derived.Test.YtiafochainjglaaGreatDoorWaF
import Derived.WalkKit
import Derived.ProofKit
import Derived.LaidMore
import Derived.OpenShut
import Derived.ShutString
import Derived.ChangeOld
import Derived.Below
import Derived.SevenTiedAt
import Derived.Stop.Joined
import Derived.Lay
import Derived.Test.YtiafochainjglaaGreatDoorMnA
section
namespace Go.Proofs.YtiafochainjglaaGreatDoor.metaNil
open Go.ChangeShapes Go.WideShapes Go.ChangeAt Go.RowKit
set_option linter.unusedVariables false
theorem p9 : Go.Ax.gcB 0 .normal [0, 1, 2, 3, 4, 5, 6] F9 123 S9 7 ((Go.Ax.M En (Go.Ax.drawA En) sm9 300).ex none C8 (Go.Ax.xFr F8 123) (Go.Ax.mkSt S8 7)) = true := by kernel_rfl
theorem p10 : Go.Ax.gcB 0 .normal [0, 1, 2, 3, 4, 5, 6] F10 123 S10 7 ((Go.Ax.M En (Go.Ax.drawA En) sm9 300).ex none C9 (Go.Ax.xFr F9 123) (Go.Ax.mkSt S9 7)) = true := by kernel_rfl
theorem p11 : Go.Ax.gcB 0 .normal [0, 1, 2, 3, 4, 5, 6] F11 123 S11 7 ((Go.Ax.M En (Go.Ax.drawA En) sm9 300).ex none C10 (Go.Ax.xFr F10 123) (Go.Ax.mkSt S10 7)) = true := by kernel_rfl
theorem p12 : Go.Ax.gcB 0 .normal [0, 1, 2, 3, 4, 5, 6] F12 123 S12 7 ((Go.Ax.M En (Go.Ax.drawA En) sm9 300).ex none C11 (Go.Ax.xFr F11 123) (Go.Ax.mkSt S11 7)) = true := by kernel_rfl
theorem p13 : Go.Ax.gcB 0 .normal [0, 1, 2, 3, 4, 5, 6] F13 123 S13 7 ((Go.Ax.M En (Go.Ax.drawA En) sm9 300).ex none C12 (Go.Ax.xFr F12 123) (Go.Ax.mkSt S12 7)) = true := by kernel_rfl
theorem p14 : Go.Ax.gcB 0 .normal [0, 1, 2, 3, 4, 5, 6] F14 123 S14 7 ((Go.Ax.M En (Go.Ax.drawA En) sm9 300).ex none C13 (Go.Ax.xFr F13 123) (Go.Ax.mkSt S13 7)) = true := by kernel_rfl
theorem p15 : Go.Ax.gcB 0 .normal [0, 1, 2, 6] F15 123 S15 4 ((Go.Ax.M En (Go.Ax.drawA En) sm9 300).ex none C14 (Go.Ax.xFr F14 123) (Go.Ax.mkSt S14 7)) = true := by kernel_rfl
theorem p16 : Go.Ax.gcB 0 .normal [0, 1, 2, 3] F16 123 S16 4 ((Go.Ax.M En (Go.Ax.drawA En) sm9 300).ex none C15 (Go.Ax.xFr F15 123) (Go.Ax.mkSt S15 4)) = true := by kernel_rfl
theorem p17 : Go.Ax.gcB 0 .normal [0, 1, 2, 3] F17 123 S17 4 ((Go.Ax.M En (Go.Ax.drawA En) sm9 300).ex none C16 (Go.Ax.xFr F16 123) (Go.Ax.mkSt S16 4)) = true := by kernel_rfl
theorem p18 : Go.Ax.gcB 0 .normal [] F18 123 S18 0 ((Go.Ax.M En (Go.Ax.drawA En) sm9 300).ex none C17 (Go.Ax.xFr F17 123) (Go.Ax.mkSt S17 4)) = true := by kernel_rfl
theorem p19 : Go.Ax.gcB 0 .normal [] F19 123 S19 0 ((Go.Ax.M En (Go.Ax.drawA En) sm9 300).ex none C18 (Go.Ax.xFr F18 123) (Go.Ax.mkSt S18 0)) = true := by kernel_rfl
theorem pE : Go.Ax.lastB En Tryz.f4 ((Go.Ax.M En (Go.Ax.drawA En) sm9 300).ex none C19 (Go.Ax.xFr F19 123) (Go.Ax.mkSt S19 0)) = true := by kernel_rfl
end Go.Proofs.YtiafochainjglaaGreatDoor.metaNil
end
