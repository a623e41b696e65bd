/-
  OWN WORK, A PART: an abstract machine for the program's text that the kernel can run, and the proof that it is sound: what it answers is what the program answers; contracts of functions by it. No condition.
-/
import Derived.Test.YtiafochainjglaaGreatDoorRows
import Derived.Test.YtiafochainjglaaGreatDoorCards
import Derived.Test.YtiafochainjglaaGreatDoorTie
import Derived.Test.YtiafochainjglaaGreatDoorKaA
import Derived.Test.YtiafochainjglaaGreatDoorHaR
import Derived.Test.YtiafochainjglaaGreatDoorWaF
import Derived.Test.YtiafochainjglaaGreatDoorWaJ
import Derived.WalkKit
import Derived.ProofKit
import Derived.LaidMore
import Derived.OpenShut
import Derived.ShutString
import Derived.ChangeOld
import Derived.Below
import Derived.SevenTiedAt
import Derived.Stop.Joined
import Derived.Lay
section
namespace Go.Proofs.YtiafochainjglaaGreatDoor.metaNil
open Go.ChangeShapes Go.WideShapes Go.ChangeAt Go.RowKit
set_option linter.unusedVariables false
theorem k9p1:Go.Ax.gcB 0 .normal [] k9F1 29 k9S1 0 ((Go.Ax.M En (Go.Ax.drawA En) smT 300).ex none q2b ({m:=.e,n:=Tryz.f9.ntmps,defs:=[]}:Go.Ax.AFr) Go.Ax.st0)=true:=by kernel_rfl
theorem k9p2:Go.Ax.gcB 0 .normal [0,1,2] k9F2 29 k9S2 3 ((Go.Ax.M En (Go.Ax.drawA En) smT 300).ex none q2a (Go.Ax.xFr k9F1 29) (Go.Ax.mkSt k9S1 0))=true:=by kernel_rfl
theorem k9p3:Go.Ax.gcB 0 .normal [0,1,2] k9F3 29 k9S3 3 ((Go.Ax.M En (Go.Ax.drawA En) smT 300).ex none q29 (Go.Ax.xFr k9F2 29) (Go.Ax.mkSt k9S2 3))=true:=by kernel_rfl
theorem k9p4:Go.Ax.gcB 0 .normal [709] k9F4 29 k9S4 1 ((Go.Ax.M En (Go.Ax.drawA En) smT 300).ex none q28 (Go.Ax.xFr k9F3 29) (Go.Ax.mkSt k9S3 3))=true:=by kernel_rfl
theorem k9p5:Go.Ax.gcB 0 .normal [] k9F5 29 k9S5 0 ((Go.Ax.M En (Go.Ax.drawA En) smT 300).ex none q27 (Go.Ax.xFr k9F4 29) (Go.Ax.mkSt k9S4 1))=true:=by kernel_rfl
theorem k9p6:Go.Ax.gcB 0 .normal [] k9F6 29 k9S6 0 ((Go.Ax.M En (Go.Ax.drawA En) smT 300).ex none q26 (Go.Ax.xFr k9F5 29) (Go.Ax.mkSt k9S5 0))=true:=by kernel_rfl
theorem k9pE:Go.Ax.lastB En Tryz.f9 ((Go.Ax.M En (Go.Ax.drawA En) smT 300).ex none q25 (Go.Ax.xFr k9F6 29) (Go.Ax.mkSt k9S6 0))=true:=by kernel_rfl
theorem qZn:Go.Ax.Trip Tryz.prog 0 none (.seq q2b (.seq q2a (.seq q29 (.seq q28 (.seq q27 (.seq q26 q25)))))) {m:=.e,n:=Tryz.f9.ntmps,defs:=[]} Go.Ax.st0 fun r=>(r.1=.normal∨r.1=.ret)∧Go.Ax.isTrue (Go.Ax.leaveA En Tryz.f9 r.2.1 r.2.2)=true :=
 Go.Ax.Trip.seqB qV0 qH0 [] k9p1 <|
 Go.Ax.Trip.seqB qV0 qH0 [0,1,2] k9p2 <|
 Go.Ax.Trip.seqB qV0 qH0 [0,1,2] k9p3 <|
 Go.Ax.Trip.seqB qV0 qH0 [709] k9p4 <|
 Go.Ax.Trip.seqB qV0 qH0 [] k9p5 <|
 Go.Ax.Trip.seqB qV0 qH0 [] k9p6 <|
 Go.Ax.Trip.lastB qV0 qH0 k9pE
theorem memo9:Go.Ax.MemoOK Tryz.prog ⟨9,[],.bool true⟩:=Go.Ax.trip_memo qV0 (by kernel_rfl) qWz Tryz.call9 qZn
end Go.Proofs.YtiafochainjglaaGreatDoor.metaNil
end
