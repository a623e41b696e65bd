/-
  PROVED HERE: 'Rows.VerifyNilCardSaid': the call of the law's function, which takes nothing, returns true and writes nothing that was there; what the row lists is tied to the program's text by the given tie. No condition.
  THE WALK is an abstract run of the function's text, reckoned by the kernel ('trip_true', in pieces between which what is dead is forgotten: the texts YthdjnhmacfmjiaaGreatDoorAxA to YthdjnhmacfmjiaaGreatDoorAxU show that what such a run answers is what the program answers).
-/
import Derived.Test.YthdjnhmacfmjiaaGreatDoorRows
import Derived.Test.YthdjnhmacfmjiaaGreatDoorCards
import Derived.Test.YthdjnhmacfmjiaaGreatDoorTie
import Derived.Test.YthdjnhmacfmjiaaGreatDoorGlob
import Derived.Test.YthdjnhmacfmjiaaGreatDoorShaE
import Derived.Test.YthdjnhmacfmjiaaGreatDoorAxGc
import Derived.Test.YthdjnhmacfmjiaaGreatDoorAxSt
import Derived.WalkKit
import Derived.ProofKit
import Derived.LaidMore
import Derived.OpenShut
import Derived.ShutString
import Derived.ChangeOld
import Derived.Below
import Derived.SevenTiedAt
import Derived.Stop.Joined
import Derived.Test.YthdjnhmacfmjiaaGreatDoorVnA
import Derived.Test.YthdjnhmacfmjiaaGreatDoorVnK2
import Derived.Test.YthdjnhmacfmjiaaGreatDoorVnK5
import Derived.Test.YthdjnhmacfmjiaaGreatDoorVnM2
import Derived.Test.YthdjnhmacfmjiaaGreatDoorVnM5
namespace Go.Proofs.YthdjnhmacfmjiaaGreatDoor.verifyNil
open Go.ChangeShapes Go.WideShapes Go.ChangeAt Go.RowKit
set_option linter.unusedVariables false

theorem k21p1 : Go.Ax.gcB 0 .normal [] k21F1 119 k21S1 0 ((Go.Ax.M En (Go.Ax.drawA En) smT 300).ex none k21C0 ({ m := .e, n := Tryz.f21.ntmps, defs := [] } : Go.Ax.AFr) Go.Ax.st0) = true := by kernel_rfl
theorem k21p2 : Go.Ax.gcB 0 .normal [0] k21F2 119 k21S2 1 (Go.Ax.nrm (Go.Ax.regL (Go.Ax.step En (Go.Ax.M En (Go.Ax.drawA En) smT 300).call (Go.Ax.M En (Go.Ax.drawA En) smT 300).round (Go.Ax.opsOf k21C1).toList) (((Go.Ax.opsOf k21C1).toList.drop 0).take 2) (Go.Ax.xFr k21F1 119) (Go.Ax.mkSt k21S1 0))) = true := by kernel_rfl
theorem k21p3 : Go.Ax.gcB 0 .normal [1, 2, 3, 4, 5, 6] k21F3 119 k21S3 6 (Go.Ax.nrm (Go.Ax.regL (Go.Ax.step En (Go.Ax.M En (Go.Ax.drawA En) smT 300).call (Go.Ax.M En (Go.Ax.drawA En) smT 300).round (Go.Ax.opsOf k21C1).toList) (((Go.Ax.opsOf k21C1).toList.drop 3).take 0) k21n1_2_G (Go.Ax.mkSt k21n1_2_S6 7))) = true := by kernel_rfl
theorem k21p4 : Go.Ax.gcB 0 .normal [0, 1, 2, 3, 4, 5, 6] k21F4 119 k21S4 7 (Go.Ax.nrm (Go.Ax.regL (Go.Ax.step En (Go.Ax.M En (Go.Ax.drawA En) smT 300).call (Go.Ax.M En (Go.Ax.drawA En) smT 300).round (Go.Ax.opsOf k21C1).toList) (((Go.Ax.opsOf k21C1).toList.drop 3).take 2) (Go.Ax.xFr k21F3 119) (Go.Ax.mkSt k21S3 6))) = true := by kernel_rfl
theorem k21p5 : Go.Ax.gcB 0 .normal [0, 1, 2, 3, 4, 5, 7, 8, 9, 10, 11, 12] k21F5 119 k21S5 12 (Go.Ax.nrm (Go.Ax.regL (Go.Ax.step En (Go.Ax.M En (Go.Ax.drawA En) smT 300).call (Go.Ax.M En (Go.Ax.drawA En) smT 300).round (Go.Ax.opsOf k21C1).toList) (((Go.Ax.opsOf k21C1).toList.drop 6).take 0) k21n1_5_G (Go.Ax.mkSt k21n1_5_S6 13))) = true := by kernel_rfl
theorem k21p6 : Go.Ax.gcB 0 .normal [0, 1, 2, 3, 4, 5, 6, 7, 8, 9, 10, 11] k21F6 119 k21S6 12 (Go.Ax.nrm (Go.Ax.regL (Go.Ax.step En (Go.Ax.M En (Go.Ax.drawA En) smT 300).call (Go.Ax.M En (Go.Ax.drawA En) smT 300).round (Go.Ax.opsOf k21C1).toList) (((Go.Ax.opsOf k21C1).toList.drop 6).take 2) (Go.Ax.xFr k21F5 119) (Go.Ax.mkSt k21S5 12))) = true := by kernel_rfl
theorem k21p7 : Go.Ax.gcB 0 .normal [0, 1, 2, 3, 4, 5, 6, 7, 8, 9, 10, 11] k21F7 119 k21S7 12 ((Go.Ax.M En (Go.Ax.drawA En) smT 300).ex none k21C2 (Go.Ax.xFr k21F6 119) (Go.Ax.mkSt k21S6 12)) = true := by kernel_rfl
theorem k21p8 : Go.Ax.gcB 0 .normal [0, 1, 2, 3, 4, 5, 6, 7, 8, 9, 10, 11, 12, 13] k21F8 119 k21S8 14 ((Go.Ax.M En (Go.Ax.drawA En) smT 300).ex none k21C3 (Go.Ax.xFr k21F7 119) (Go.Ax.mkSt k21S7 12)) = true := by kernel_rfl
theorem k21p9 : Go.Ax.gcB 0 .normal [0, 1, 2, 3, 4, 5, 6, 7, 8, 9, 10, 11, 12, 13, 62, 77, 79] k21F9 119 k21S9 17 ((Go.Ax.M En (Go.Ax.drawA En) smT 300).ex none k21C4 (Go.Ax.xFr k21F8 119) (Go.Ax.mkSt k21S8 14)) = true := by kernel_rfl
theorem k21p10 : Go.Ax.gcB 0 .normal [0, 1, 2, 3, 4, 5, 6, 7, 8, 9, 10, 11, 12, 13, 14, 15, 16] k21F10 119 k21S10 17 ((Go.Ax.M En (Go.Ax.drawA En) smT 300).ex none k21C5 (Go.Ax.xFr k21F9 119) (Go.Ax.mkSt k21S9 17)) = true := by kernel_rfl
theorem k21p11 : Go.Ax.gcB 0 .normal [0, 1, 2, 3, 4, 5, 12, 13] k21F11 119 k21S11 8 ((Go.Ax.M En (Go.Ax.drawA En) smT 300).ex none k21C6 (Go.Ax.xFr k21F10 119) (Go.Ax.mkSt k21S10 17)) = true := by kernel_rfl
theorem k21p12 : Go.Ax.gcB 0 .normal [0, 1, 2, 3, 4, 5, 6, 7, 52, 54] k21F12 119 k21S12 10 ((Go.Ax.M En (Go.Ax.drawA En) smT 300).ex none k21C7 (Go.Ax.xFr k21F11 119) (Go.Ax.mkSt k21S11 8)) = true := by kernel_rfl
theorem k21p13 : Go.Ax.gcB 0 .normal [] k21F13 119 k21S13 0 ((Go.Ax.M En (Go.Ax.drawA En) smT 300).ex none k21C8 (Go.Ax.xFr k21F12 119) (Go.Ax.mkSt k21S12 10)) = true := by kernel_rfl
theorem k21pE : Go.Ax.lastB En Tryz.f21 ((Go.Ax.M En (Go.Ax.drawA En) smT 300).ex none k21C9 (Go.Ax.xFr k21F13 119) (Go.Ax.mkSt k21S13 0)) = true := by kernel_rfl
theorem p1 : Go.Ax.gcB 0 .normal [] F1 199 S1 0 ((Go.Ax.M En (Go.Ax.drawA En) sm21 300).ex none C0 ({ m := .e, n := Tryz.f3.ntmps, defs := [] } : Go.Ax.AFr) Go.Ax.st0) = true := by kernel_rfl
theorem p2 : Go.Ax.gcB 0 .normal [] F2 199 S2 0 ((Go.Ax.M En (Go.Ax.drawA En) sm21 300).ex none C1 (Go.Ax.xFr F1 199) (Go.Ax.mkSt S1 0)) = true := by kernel_rfl
theorem p3 : Go.Ax.gcB 0 .normal [0] F3 199 S3 1 ((Go.Ax.M En (Go.Ax.drawA En) sm21 300).ex none C2 (Go.Ax.xFr F2 199) (Go.Ax.mkSt S2 0)) = true := by kernel_rfl
theorem p4 : Go.Ax.gcB 0 .normal [0, 1] F4 199 S4 2 (Go.Ax.nrm (Go.Ax.regL (Go.Ax.step En (Go.Ax.M En (Go.Ax.drawA En) sm21 300).call (Go.Ax.M En (Go.Ax.drawA En) sm21 300).round (Go.Ax.opsOf C3).toList) (((Go.Ax.opsOf C3).toList.drop 0).take 2) (Go.Ax.xFr F3 199) (Go.Ax.mkSt S3 1))) = true := by kernel_rfl
theorem p5 : Go.Ax.gcB 0 .normal [0, 2, 3, 4, 5, 6, 7] F5 199 S5 7 (Go.Ax.nrm (Go.Ax.regL (Go.Ax.step En (Go.Ax.M En (Go.Ax.drawA En) sm21 300).call (Go.Ax.M En (Go.Ax.drawA En) sm21 300).round (Go.Ax.opsOf C3).toList) (((Go.Ax.opsOf C3).toList.drop 3).take 0) n3_2_G (Go.Ax.mkSt n3_2_S6 8))) = true := by kernel_rfl
theorem p6 : Go.Ax.gcB 0 .normal [0, 1, 2, 3, 4, 5, 6, 7] F6 199 S6 8 (Go.Ax.nrm (Go.Ax.regL (Go.Ax.step En (Go.Ax.M En (Go.Ax.drawA En) sm21 300).call (Go.Ax.M En (Go.Ax.drawA En) sm21 300).round (Go.Ax.opsOf C3).toList) (((Go.Ax.opsOf C3).toList.drop 3).take 2) (Go.Ax.xFr F5 199) (Go.Ax.mkSt S5 7))) = true := by kernel_rfl
theorem p7 : Go.Ax.gcB 0 .normal [0, 1, 2, 3, 4, 5, 6, 8, 9, 10, 11, 12, 13] F7 199 S7 13 (Go.Ax.nrm (Go.Ax.regL (Go.Ax.step En (Go.Ax.M En (Go.Ax.drawA En) sm21 300).call (Go.Ax.M En (Go.Ax.drawA En) sm21 300).round (Go.Ax.opsOf C3).toList) (((Go.Ax.opsOf C3).toList.drop 6).take 0) n3_5_G (Go.Ax.mkSt n3_5_S6 14))) = true := by kernel_rfl
theorem p8 : Go.Ax.gcB 0 .normal [0, 1, 2, 3, 4, 5, 6, 7, 8, 9, 10, 11, 12] F8 199 S8 13 (Go.Ax.nrm (Go.Ax.regL (Go.Ax.step En (Go.Ax.M En (Go.Ax.drawA En) sm21 300).call (Go.Ax.M En (Go.Ax.drawA En) sm21 300).round (Go.Ax.opsOf C3).toList) (((Go.Ax.opsOf C3).toList.drop 6).take 2) (Go.Ax.xFr F7 199) (Go.Ax.mkSt S7 13))) = true := by kernel_rfl
theorem p9 : Go.Ax.gcB 0 .normal [0, 1, 2, 3, 4, 5, 6, 7, 8, 9, 10, 11, 12] F9 199 S9 13 ((Go.Ax.M En (Go.Ax.drawA En) sm21 300).ex none C4 (Go.Ax.xFr F8 199) (Go.Ax.mkSt S8 13)) = true := by kernel_rfl
theorem p10 : Go.Ax.gcB 0 .normal [0, 1, 2, 3, 4, 5, 6, 7, 8, 9, 10, 11, 12] F10 199 S10 13 ((Go.Ax.M En (Go.Ax.drawA En) sm21 300).ex none C5 (Go.Ax.xFr F9 199) (Go.Ax.mkSt S9 13)) = true := by kernel_rfl
theorem p11 : Go.Ax.gcB 0 .normal [0, 1, 2, 3, 4, 5, 6, 7, 8, 9, 10, 11, 12] F11 199 S11 13 ((Go.Ax.M En (Go.Ax.drawA En) sm21 300).ex none C6 (Go.Ax.xFr F10 199) (Go.Ax.mkSt S10 13)) = true := by kernel_rfl
theorem p12 : Go.Ax.gcB 0 .normal [0, 1, 2, 3, 4, 5, 6, 7, 8, 9, 10, 11, 12] F12 199 S12 13 ((Go.Ax.M En (Go.Ax.drawA En) sm21 300).ex none C7 (Go.Ax.xFr F11 199) (Go.Ax.mkSt S11 13)) = true := by kernel_rfl
theorem p13 : Go.Ax.gcB 0 .normal [0, 1, 2, 3, 4, 5, 6, 7, 8, 9, 10, 11, 12] F13 199 S13 13 ((Go.Ax.M En (Go.Ax.drawA En) sm21 300).ex none C8 (Go.Ax.xFr F12 199) (Go.Ax.mkSt S12 13)) = true := by kernel_rfl
theorem p14 : Go.Ax.gcB 0 .normal [0, 1, 2, 3, 4, 5, 6, 7, 8, 9, 10, 11, 12] F14 199 S14 13 ((Go.Ax.M En (Go.Ax.drawA En) sm21 300).ex none C9 (Go.Ax.xFr F13 199) (Go.Ax.mkSt S13 13)) = true := by kernel_rfl
theorem p15 : Go.Ax.gcB 0 .normal [0, 1, 2, 3, 4, 5, 6, 7, 8, 9, 10, 11, 12] F15 199 S15 13 ((Go.Ax.M En (Go.Ax.drawA En) sm21 300).ex none C10 (Go.Ax.xFr F14 199) (Go.Ax.mkSt S14 13)) = true := by kernel_rfl
theorem p16 : Go.Ax.gcB 0 .normal [1, 2, 3, 4, 5, 6, 7, 8, 9, 10, 11, 12] F16 199 S16 12 ((Go.Ax.M En (Go.Ax.drawA En) sm21 300).ex none C11 (Go.Ax.xFr F15 199) (Go.Ax.mkSt S15 13)) = true := by kernel_rfl
theorem p17 : Go.Ax.gcB 0 .normal [0, 1, 2, 3, 4, 5, 6, 7, 8, 9, 10, 11] F17 199 S17 12 ((Go.Ax.M En (Go.Ax.drawA En) sm21 300).ex none C12 (Go.Ax.xFr F16 199) (Go.Ax.mkSt S16 12)) = true := by kernel_rfl
theorem p18 : Go.Ax.gcB 0 .normal [0, 1, 2, 3, 4, 5, 6, 7, 8, 9, 10, 11] F18 199 S18 12 ((Go.Ax.M En (Go.Ax.drawA En) sm21 300).ex none C13 (Go.Ax.xFr F17 199) (Go.Ax.mkSt S17 12)) = true := by kernel_rfl
theorem p19 : Go.Ax.gcB 0 .normal [0, 1, 2, 3, 4, 5, 6, 7, 8, 9, 10, 11] F19 199 S19 12 ((Go.Ax.M En (Go.Ax.drawA En) sm21 300).ex none C14 (Go.Ax.xFr F18 199) (Go.Ax.mkSt S18 12)) = true := by kernel_rfl
theorem p20 : Go.Ax.gcB 0 .normal [0, 1, 2, 3, 4, 5, 6, 7, 8, 9, 10, 11] F20 199 S20 12 ((Go.Ax.M En (Go.Ax.drawA En) sm21 300).ex none C15 (Go.Ax.xFr F19 199) (Go.Ax.mkSt S19 12)) = true := by kernel_rfl
theorem p21 : Go.Ax.gcB 0 .normal [0, 1, 2, 3, 4, 5, 6, 7, 8, 9, 10, 11] F21 199 S21 12 ((Go.Ax.M En (Go.Ax.drawA En) sm21 300).ex none C16 (Go.Ax.xFr F20 199) (Go.Ax.mkSt S20 12)) = true := by kernel_rfl
theorem p22 : Go.Ax.gcB 0 .normal [0, 1, 2, 3, 4, 5, 6, 7, 8, 9, 10, 11, 12, 13] F22 199 S22 14 ((Go.Ax.M En (Go.Ax.drawA En) sm21 300).ex none C17 (Go.Ax.xFr F21 199) (Go.Ax.mkSt S21 12)) = true := by kernel_rfl
theorem p23 : Go.Ax.gcB 0 .normal [0, 1, 2, 3, 4, 5, 6, 7, 8, 9, 10, 11, 12, 13, 14, 15] F23 199 S23 16 ((Go.Ax.M En (Go.Ax.drawA En) sm21 300).ex none C18 (Go.Ax.xFr F22 199) (Go.Ax.mkSt S22 14)) = true := by kernel_rfl
theorem p24 : Go.Ax.gcB 0 .normal [0, 1, 2, 3, 4, 5, 12, 13] F24 199 S24 8 ((Go.Ax.M En (Go.Ax.drawA En) sm21 300).ex none C19 (Go.Ax.xFr F23 199) (Go.Ax.mkSt S23 16)) = true := by kernel_rfl
theorem p25 : Go.Ax.gcB 0 .normal [] F25 199 S25 0 ((Go.Ax.M En (Go.Ax.drawA En) sm21 300).ex none C20 (Go.Ax.xFr F24 199) (Go.Ax.mkSt S24 8)) = true := by kernel_rfl
theorem pE : Go.Ax.lastB En Tryz.f3 ((Go.Ax.M En (Go.Ax.drawA En) sm21 300).ex none C21 (Go.Ax.xFr F25 199) (Go.Ax.mkSt S25 0)) = true := by kernel_rfl

theorem k21n1_2_call : Go.Ax.Trip Tryz.prog 1 none (.seq m6C0 (.seq m6C1 (.seq m6C2 (.seq m6C3 (.seq m6C4 (.seq m6C5 (.seq m6C6 m6C7))))))) ({ m := Go.Ax.putArgs k21n1_2_as 0 .e, n := Tryz.f6.ntmps, defs := [] } : Go.Ax.AFr) (Go.Ax.mkSt k21S2 1) fun r => (r.1 = .normal ∨ r.1 = .ret) ∧ Go.Ax.leaveA En Tryz.f6 r.2.1 r.2.2 = some (k21n1_2_v, (Go.Ax.mkSt k21n1_2_S6 7)) :=
  Go.Ax.Trip.seqB EnOk smT_ok [0] k21n1_2_p0 <|
  Go.Ax.Trip.seqB EnOk smT_ok [0, 1, 2, 3] k21n1_2_p1 <|
  Go.Ax.Trip.seqB EnOk smT_ok [0, 1, 2, 3] k21n1_2_p2 <|
  Go.Ax.Trip.seqB EnOk smT_ok [0, 1, 2, 3, 4, 640, 697] k21n1_2_p3 <|
  Go.Ax.Trip.seqB EnOk smT_ok [0, 1, 2, 3, 4, 5, 6] k21n1_2_p4 <|
  Go.Ax.Trip.seqB EnOk smT_ok [0, 1, 2, 3, 4, 5, 6] k21n1_2_p5 <|
  Go.Ax.Trip.seqB EnOk smT_ok [0, 1, 2, 3, 4, 5, 6] k21n1_2_p6 <|
  lastV_trip EnOk smT_ok k21n1_2_pE
theorem k21n1_5_call : Go.Ax.Trip Tryz.prog 7 none (.seq m6C0 (.seq m6C1 (.seq m6C2 (.seq m6C3 (.seq m6C4 (.seq m6C5 (.seq m6C6 m6C7))))))) ({ m := Go.Ax.putArgs k21n1_5_as 0 .e, n := Tryz.f6.ntmps, defs := [] } : Go.Ax.AFr) (Go.Ax.mkSt k21S4 7) fun r => (r.1 = .normal ∨ r.1 = .ret) ∧ Go.Ax.leaveA En Tryz.f6 r.2.1 r.2.2 = some (k21n1_5_v, (Go.Ax.mkSt k21n1_5_S6 13)) :=
  Go.Ax.Trip.seqB EnOk smT_ok [0, 1, 2, 3, 4, 5, 6] k21n1_5_p0 <|
  Go.Ax.Trip.seqB EnOk smT_ok [0, 1, 2, 3, 4, 5, 6, 7, 8, 9] k21n1_5_p1 <|
  Go.Ax.Trip.seqB EnOk smT_ok [0, 1, 2, 3, 4, 5, 6, 7, 8, 9] k21n1_5_p2 <|
  Go.Ax.Trip.seqB EnOk smT_ok [0, 1, 2, 3, 4, 5, 6, 7, 8, 9, 10, 646, 703] k21n1_5_p3 <|
  Go.Ax.Trip.seqB EnOk smT_ok [0, 1, 2, 3, 4, 5, 6, 7, 8, 9, 10, 11, 12] k21n1_5_p4 <|
  Go.Ax.Trip.seqB EnOk smT_ok [0, 1, 2, 3, 4, 5, 6, 7, 8, 9, 10, 11, 12] k21n1_5_p5 <|
  Go.Ax.Trip.seqB EnOk smT_ok [0, 1, 2, 3, 4, 5, 6, 7, 8, 9, 10, 11, 12] k21n1_5_p6 <|
  lastV_trip EnOk smT_ok k21n1_5_pE
theorem k21trip : Go.Ax.Trip Tryz.prog 0 none (.seq k21C0 (.seq k21C1 (.seq k21C2 (.seq k21C3 (.seq k21C4 (.seq k21C5 (.seq k21C6 (.seq k21C7 (.seq k21C8 k21C9))))))))) { m := .e, n := Tryz.f21.ntmps, defs := [] } Go.Ax.st0 fun r => (r.1 = .normal ∨ r.1 = .ret) ∧ Go.Ax.isTrue (Go.Ax.leaveA En Tryz.f21 r.2.1 r.2.2) = true :=
  Go.Ax.Trip.seqB EnOk smT_ok [] k21p1 <|
  Go.Ax.Trip.seqT (Go.Ax.Trip.ofRegion (by kernel_rfl) <| Go.Ax.TripO.runB EnOk smT_ok 2 [0] k21p2 <| callB EnOk smT_ok k21n1_2_o (by kernel_rfl) (by kernel_rfl) (by kernel_rfl : En.fn.get 6 = some Tryz.f6) m6shape (by kernel_rfl) k21n1_2_hop k21n1_2_put k21n1_2_call <| Go.Ax.TripO.runB EnOk smT_ok 0 [1, 2, 3, 4, 5, 6] k21p3 <| Go.Ax.TripO.runB EnOk smT_ok 2 [0, 1, 2, 3, 4, 5, 6] k21p4 <| callB EnOk smT_ok k21n1_5_o (by kernel_rfl) (by kernel_rfl) (by kernel_rfl : En.fn.get 6 = some Tryz.f6) m6shape (by kernel_rfl) k21n1_5_hop k21n1_5_put k21n1_5_call <| Go.Ax.TripO.runB EnOk smT_ok 0 [0, 1, 2, 3, 4, 5, 7, 8, 9, 10, 11, 12] k21p5 <| Go.Ax.TripO.runB EnOk smT_ok 2 [0, 1, 2, 3, 4, 5, 6, 7, 8, 9, 10, 11] k21p6 <| Go.Ax.TripO.end_ (by kernel_rfl) ⟨rfl, Go.Ax.Wk.refl _ _ _⟩) <|
  Go.Ax.Trip.seqB EnOk smT_ok [0, 1, 2, 3, 4, 5, 6, 7, 8, 9, 10, 11] k21p7 <|
  Go.Ax.Trip.seqB EnOk smT_ok [0, 1, 2, 3, 4, 5, 6, 7, 8, 9, 10, 11, 12, 13] k21p8 <|
  Go.Ax.Trip.seqB EnOk smT_ok [0, 1, 2, 3, 4, 5, 6, 7, 8, 9, 10, 11, 12, 13, 62, 77, 79] k21p9 <|
  Go.Ax.Trip.seqB EnOk smT_ok [0, 1, 2, 3, 4, 5, 6, 7, 8, 9, 10, 11, 12, 13, 14, 15, 16] k21p10 <|
  Go.Ax.Trip.seqB EnOk smT_ok [0, 1, 2, 3, 4, 5, 12, 13] k21p11 <|
  Go.Ax.Trip.seqB EnOk smT_ok [0, 1, 2, 3, 4, 5, 6, 7, 52, 54] k21p12 <|
  Go.Ax.Trip.seqB EnOk smT_ok [] k21p13 <|
  Go.Ax.Trip.lastB EnOk smT_ok k21pE
theorem memo21 : Go.Ax.MemoOK Tryz.prog ⟨21, [], .bool true⟩ := Go.Ax.trip_memo EnOk (by kernel_rfl) k21shape Tryz.call21 k21trip
theorem sm21_ok : Go.Ax.CallsOK Tryz.prog sm21 := Go.Ax.orC_ok (Go.Ax.sumC_ok (l := [⟨21, [], .bool true⟩]) ⟨memo21, trivial⟩) smT_ok

theorem n3_2_call : Go.Ax.Trip Tryz.prog 2 none (.seq m6C0 (.seq m6C1 (.seq m6C2 (.seq m6C3 (.seq m6C4 (.seq m6C5 (.seq m6C6 m6C7))))))) ({ m := Go.Ax.putArgs n3_2_as 0 .e, n := Tryz.f6.ntmps, defs := [] } : Go.Ax.AFr) (Go.Ax.mkSt S4 2) fun r => (r.1 = .normal ∨ r.1 = .ret) ∧ Go.Ax.leaveA En Tryz.f6 r.2.1 r.2.2 = some (n3_2_v, (Go.Ax.mkSt n3_2_S6 8)) :=
  Go.Ax.Trip.seqB EnOk sm21_ok [0, 1] n3_2_p0 <|
  Go.Ax.Trip.seqB EnOk sm21_ok [0, 1, 2, 3, 4] n3_2_p1 <|
  Go.Ax.Trip.seqB EnOk sm21_ok [0, 1, 2, 3, 4] n3_2_p2 <|
  Go.Ax.Trip.seqB EnOk sm21_ok [0, 1, 2, 3, 4, 5, 641, 698] n3_2_p3 <|
  Go.Ax.Trip.seqB EnOk sm21_ok [0, 1, 2, 3, 4, 5, 6, 7] n3_2_p4 <|
  Go.Ax.Trip.seqB EnOk sm21_ok [0, 1, 2, 3, 4, 5, 6, 7] n3_2_p5 <|
  Go.Ax.Trip.seqB EnOk sm21_ok [0, 1, 2, 3, 4, 5, 6, 7] n3_2_p6 <|
  lastV_trip EnOk sm21_ok n3_2_pE
theorem n3_5_call : Go.Ax.Trip Tryz.prog 8 none (.seq m6C0 (.seq m6C1 (.seq m6C2 (.seq m6C3 (.seq m6C4 (.seq m6C5 (.seq m6C6 m6C7))))))) ({ m := Go.Ax.putArgs n3_5_as 0 .e, n := Tryz.f6.ntmps, defs := [] } : Go.Ax.AFr) (Go.Ax.mkSt S6 8) fun r => (r.1 = .normal ∨ r.1 = .ret) ∧ Go.Ax.leaveA En Tryz.f6 r.2.1 r.2.2 = some (n3_5_v, (Go.Ax.mkSt n3_5_S6 14)) :=
  Go.Ax.Trip.seqB EnOk sm21_ok [0, 1, 2, 3, 4, 5, 6, 7] n3_5_p0 <|
  Go.Ax.Trip.seqB EnOk sm21_ok [0, 1, 2, 3, 4, 5, 6, 7, 8, 9, 10] n3_5_p1 <|
  Go.Ax.Trip.seqB EnOk sm21_ok [0, 1, 2, 3, 4, 5, 6, 7, 8, 9, 10] n3_5_p2 <|
  Go.Ax.Trip.seqB EnOk sm21_ok [0, 1, 2, 3, 4, 5, 6, 7, 8, 9, 10, 11, 647, 704] n3_5_p3 <|
  Go.Ax.Trip.seqB EnOk sm21_ok [0, 1, 2, 3, 4, 5, 6, 7, 8, 9, 10, 11, 12, 13] n3_5_p4 <|
  Go.Ax.Trip.seqB EnOk sm21_ok [0, 1, 2, 3, 4, 5, 6, 7, 8, 9, 10, 11, 12, 13] n3_5_p5 <|
  Go.Ax.Trip.seqB EnOk sm21_ok [0, 1, 2, 3, 4, 5, 6, 7, 8, 9, 10, 11, 12, 13] n3_5_p6 <|
  lastV_trip EnOk sm21_ok n3_5_pE
theorem trip : Go.Ax.Trip Tryz.prog 0 none (.seq C0 (.seq C1 (.seq C2 (.seq C3 (.seq C4 (.seq C5 (.seq C6 (.seq C7 (.seq C8 (.seq C9 (.seq C10 (.seq C11 (.seq C12 (.seq C13 (.seq C14 (.seq C15 (.seq C16 (.seq C17 (.seq C18 (.seq C19 (.seq C20 C21))))))))))))))))))))) { m := .e, n := Tryz.f3.ntmps, defs := [] } Go.Ax.st0 fun r => (r.1 = .normal ∨ r.1 = .ret) ∧ Go.Ax.isTrue (Go.Ax.leaveA En Tryz.f3 r.2.1 r.2.2) = true :=
  Go.Ax.Trip.seqB EnOk sm21_ok [] p1 <|
  Go.Ax.Trip.seqB EnOk sm21_ok [] p2 <|
  Go.Ax.Trip.seqB EnOk sm21_ok [0] p3 <|
  Go.Ax.Trip.seqT (Go.Ax.Trip.ofRegion (by kernel_rfl) <| Go.Ax.TripO.runB EnOk sm21_ok 2 [0, 1] p4 <| callB EnOk sm21_ok n3_2_o (by kernel_rfl) (by kernel_rfl) (by kernel_rfl : En.fn.get 6 = some Tryz.f6) m6shape (by kernel_rfl) n3_2_hop n3_2_put n3_2_call <| Go.Ax.TripO.runB EnOk sm21_ok 0 [0, 2, 3, 4, 5, 6, 7] p5 <| Go.Ax.TripO.runB EnOk sm21_ok 2 [0, 1, 2, 3, 4, 5, 6, 7] p6 <| callB EnOk sm21_ok n3_5_o (by kernel_rfl) (by kernel_rfl) (by kernel_rfl : En.fn.get 6 = some Tryz.f6) m6shape (by kernel_rfl) n3_5_hop n3_5_put n3_5_call <| Go.Ax.TripO.runB EnOk sm21_ok 0 [0, 1, 2, 3, 4, 5, 6, 8, 9, 10, 11, 12, 13] p7 <| Go.Ax.TripO.runB EnOk sm21_ok 2 [0, 1, 2, 3, 4, 5, 6, 7, 8, 9, 10, 11, 12] p8 <| Go.Ax.TripO.end_ (by kernel_rfl) ⟨rfl, Go.Ax.Wk.refl _ _ _⟩) <|
  Go.Ax.Trip.seqB EnOk sm21_ok [0, 1, 2, 3, 4, 5, 6, 7, 8, 9, 10, 11, 12] p9 <|
  Go.Ax.Trip.seqB EnOk sm21_ok [0, 1, 2, 3, 4, 5, 6, 7, 8, 9, 10, 11, 12] p10 <|
  Go.Ax.Trip.seqB EnOk sm21_ok [0, 1, 2, 3, 4, 5, 6, 7, 8, 9, 10, 11, 12] p11 <|
  Go.Ax.Trip.seqB EnOk sm21_ok [0, 1, 2, 3, 4, 5, 6, 7, 8, 9, 10, 11, 12] p12 <|
  Go.Ax.Trip.seqB EnOk sm21_ok [0, 1, 2, 3, 4, 5, 6, 7, 8, 9, 10, 11, 12] p13 <|
  Go.Ax.Trip.seqB EnOk sm21_ok [0, 1, 2, 3, 4, 5, 6, 7, 8, 9, 10, 11, 12] p14 <|
  Go.Ax.Trip.seqB EnOk sm21_ok [0, 1, 2, 3, 4, 5, 6, 7, 8, 9, 10, 11, 12] p15 <|
  Go.Ax.Trip.seqB EnOk sm21_ok [1, 2, 3, 4, 5, 6, 7, 8, 9, 10, 11, 12] p16 <|
  Go.Ax.Trip.seqB EnOk sm21_ok [0, 1, 2, 3, 4, 5, 6, 7, 8, 9, 10, 11] p17 <|
  Go.Ax.Trip.seqB EnOk sm21_ok [0, 1, 2, 3, 4, 5, 6, 7, 8, 9, 10, 11] p18 <|
  Go.Ax.Trip.seqB EnOk sm21_ok [0, 1, 2, 3, 4, 5, 6, 7, 8, 9, 10, 11] p19 <|
  Go.Ax.Trip.seqB EnOk sm21_ok [0, 1, 2, 3, 4, 5, 6, 7, 8, 9, 10, 11] p20 <|
  Go.Ax.Trip.seqB EnOk sm21_ok [0, 1, 2, 3, 4, 5, 6, 7, 8, 9, 10, 11] p21 <|
  Go.Ax.Trip.seqB EnOk sm21_ok [0, 1, 2, 3, 4, 5, 6, 7, 8, 9, 10, 11, 12, 13] p22 <|
  Go.Ax.Trip.seqB EnOk sm21_ok [0, 1, 2, 3, 4, 5, 6, 7, 8, 9, 10, 11, 12, 13, 14, 15] p23 <|
  Go.Ax.Trip.seqB EnOk sm21_ok [0, 1, 2, 3, 4, 5, 12, 13] p24 <|
  Go.Ax.Trip.seqB EnOk sm21_ok [] p25 <|
  Go.Ax.Trip.lastB EnOk sm21_ok pE

theorem walk (w : World) (hgl : Go.Ax.GlobOK w) : Calls Tryz.prog 3 #[] w fun e w' => e = .returned (.bool true) ∧ Below w.heap.size w w' :=
  Go.Ax.trip_true EnOk (by kernel_rfl) shape trip w hgl

/-! ### The row's step -/
def laidAll : List (String × DataW Unit) := [("math/bits.deBruijn64tab", Rows.laid_math_bits_deBruijn64tab)]

theorem door_met (os : Os) (args : Array Value) : laidMetH Tryz.prog laidAll ((World.doorLaid Tryz.prog 400 os).forCall (fun _ _ => 0) ⟨#[], args, []⟩).memory :=
  laidMetH_of_parts3 (fuel := 8) (laidMet_of_run' 8 (by kernel_rfl) (by kernel_rfl)) (by kernel_rfl) (by kernel_rfl)

set_option maxRecDepth 100000 in
theorem lifted (os : Os) (started : os.Started) (H : Type) (enc : TypeId × Value → H) :
    ReturnsInHanded {} Tryz.checked os 3 .any (fun w args => (Rows.verifyNilSpec.pre enc Tryz.prog Tryz.f3 [] false w args ∧ laidMetH Tryz.prog laidAll w) ∧ sizedMet enc Tryz.prog Tryz.f3 (OpenSpec.ofChange Rows.verifyNilSpec) false w args)
      (Rows.verifyNilSpec.post enc Tryz.prog Tryz.f3 false true false false) := by
  refine returnsInHanded_of_change_and (C := Tryz.checked) (X := fun w _ => laidMetH Tryz.prog laidAll w) (fun _ _ _ hh h => h.of_heap hh) own started (by kernel_rfl) Tryz.func3
    (ChangeSpec.witness_shaped (enc := enc) (C := Tryz.checked) (os := os) (X := fun w _ => laidMetH Tryz.prog laidAll w) false (World.doorLaid Tryz.prog 400 os) #[] 8 rfl (World.shaped_of_RefB (by kernel_rfl) (by kernel_rfl)) (by kernel_rfl) (by kernel_rfl) (by kernel_rfl) (door_met os _)) ?_
  intro W base args ds gs before hval0 hW _ _ hL _
  have hval : ∀ (j : Nat) t v, Tryz.f3.params[j]? = some t → args[j]? = some v → Value.okWide Tryz.prog W .any base t v := hval0
  have hW' := hW
  obtain ⟨p, q, hA0, hV, rfl, hfz, hnd⟩ := hW
  have hA : DataW.TrodAll enc Tryz.prog W 0 (fun _ => true) true Tryz.f3.params.toList args.toList ds p := hA0
  rw [Tryz.params3] at hA hval
  obtain ⟨rfl, rfl, rfl⟩ := trodAll_none hA
  obtain ⟨rfl, rfl⟩ := trodVars_none hV
  clear hA0 hval0
  refine (walk W (globPart.globOK hL)).mono fun e W' ⟨he, bel⟩ => ?_
  subst he
  exact ⟨_, rfl, _, _, _, [], _, [], hW', trodAll_mk1 (shut_bool Tryz.underlying4 _), trodAll_mk0, rfl, bel.frame _, fun h => by cases h⟩

theorem over : Rows.verifyNilRow.holds Tryz.pinned (OpenSpec.ofChange Rows.verifyNilSpec) :=
  OpenClaim.holds_of_wide 3 Tryz.f3 rfl rfl rfl rfl rfl rfl rfl ⟨rfl, rfl, rfl, rfl, rfl⟩ rfl rfl rfl rfl rfl (by kernel_rfl) Tryz.func3 (by kernel_rfl)
    (of_decide_eq_true (by kernel_rfl)) (by unfold Func.isWrapper; first | (rw [if_pos (by decide +kernel)]; kernel_rfl) | (rw [if_neg (by decide +kernel)]; exact ⟨rfl, rfl⟩))
    (fun os started H enc _ => lifted os started H enc)

/-- THE STATEMENT -/
theorem proved : Rows.VerifyNilCardSaid :=
  Claim7.holds_tied_plain_at .later [] [.data] true (true, "f4aa76c60b8ecbb6d5afd2067278af2c7495113774b81d29b1389b96a4c74365") false
    over (fun _ h => by cases h) (by kernel_rfl) (fun _ h => by cases h) verifyNil_row_tie rfl ⟨rfl, rfl⟩ (by kernel_rfl) rfl
    (fun f fn hf hfn => by
      obtain rfl : f = 3 := Option.some.inj ((show Tryz.prog.funcNamed "gemel/gemellaw28.VerifyNil" = some 3 by kernel_rfl).symm.trans hf) |>.symm
      obtain rfl : fn = Tryz.f3 := (Option.some.inj (Tryz.func3.symm.trans hfn)).symm
      exact ⟨by kernel_rfl, fun j t ht => by
        rw [Tryz.params3] at ht
        simp at ht⟩)
    (by kernel_rfl)
#print axioms proved
end Go.Proofs.YthdjnhmacfmjiaaGreatDoor.verifyNil

