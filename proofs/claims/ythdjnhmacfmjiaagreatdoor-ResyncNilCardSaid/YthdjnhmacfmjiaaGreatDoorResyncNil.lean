/-
  PROVED HERE: 'Rows.ResyncNilCardSaid': the call of the law's function, which takes nothing, returns true and writes nothing that was there; what the row lists is tied to the program's text by the given tie. No condition.
  THE WALK is an abstract run of the function's text, reckoned by the kernel ('trip_true', in pieces between which what is dead is forgotten: the texts YthdjnhmacfmjiaaGreatDoorAxA to YthdjnhmacfmjiaaGreatDoorAxU show that what such a run answers is what the program answers).
-/
import Derived.Test.YthdjnhmacfmjiaaGreatDoorRows
import Derived.Test.YthdjnhmacfmjiaaGreatDoorCards
import Derived.Test.YthdjnhmacfmjiaaGreatDoorTie
import Derived.Test.YthdjnhmacfmjiaaGreatDoorGlob
import Derived.Test.YthdjnhmacfmjiaaGreatDoorShaE
import Derived.Test.YthdjnhmacfmjiaaGreatDoorAxGc
import Derived.Test.YthdjnhmacfmjiaaGreatDoorAxSt
import Derived.WalkKit
import Derived.ProofKit
import Derived.LaidMore
import Derived.OpenShut
import Derived.ShutString
import Derived.ChangeOld
import Derived.Below
import Derived.SevenTiedAt
import Derived.Stop.Joined
import Derived.Test.YthdjnhmacfmjiaaGreatDoorRnA
import Derived.Test.YthdjnhmacfmjiaaGreatDoorRnK1
namespace Go.Proofs.YthdjnhmacfmjiaaGreatDoor.resyncNil
open Go.ChangeShapes Go.WideShapes Go.ChangeAt Go.RowKit
set_option linter.unusedVariables false

theorem k22p1 : Go.Ax.gcB 0 .normal [] k22F1 96 k22S1 0 ((Go.Ax.M En (Go.Ax.drawA En) smT 300).ex none k22C0 ({ m := .e, n := Tryz.f22.ntmps, defs := [] } : Go.Ax.AFr) Go.Ax.st0) = true := by kernel_rfl
theorem k22p2 : Go.Ax.gcB 0 .normal [0] k22F2 96 k22S2 1 (Go.Ax.nrm (Go.Ax.regL (Go.Ax.step En (Go.Ax.M En (Go.Ax.drawA En) smT 300).call (Go.Ax.M En (Go.Ax.drawA En) smT 300).round (Go.Ax.opsOf k22C1).toList) (((Go.Ax.opsOf k22C1).toList.drop 0).take 1) (Go.Ax.xFr k22F1 96) (Go.Ax.mkSt k22S1 0))) = true := by kernel_rfl
theorem k22p3 : Go.Ax.gcB 0 .normal [1, 2, 3, 4, 5, 6] k22F3 96 k22S3 6 (Go.Ax.nrm (Go.Ax.regL (Go.Ax.step En (Go.Ax.M En (Go.Ax.drawA En) smT 300).call (Go.Ax.M En (Go.Ax.drawA En) smT 300).round (Go.Ax.opsOf k22C1).toList) (((Go.Ax.opsOf k22C1).toList.drop 2).take 0) k22n1_1_G (Go.Ax.mkSt k22n1_1_S6 7))) = true := by kernel_rfl
theorem k22p4 : Go.Ax.gcB 0 .normal [0, 1, 2, 3, 4, 5] k22F4 96 k22S4 6 (Go.Ax.nrm (Go.Ax.regL (Go.Ax.step En (Go.Ax.M En (Go.Ax.drawA En) smT 300).call (Go.Ax.M En (Go.Ax.drawA En) smT 300).round (Go.Ax.opsOf k22C1).toList) (((Go.Ax.opsOf k22C1).toList.drop 2).take 1) (Go.Ax.xFr k22F3 96) (Go.Ax.mkSt k22S3 6))) = true := by kernel_rfl
theorem k22p5 : Go.Ax.gcB 0 .normal [0, 1, 2, 3, 4, 5] k22F5 96 k22S5 6 ((Go.Ax.M En (Go.Ax.drawA En) smT 300).ex none k22C2 (Go.Ax.xFr k22F4 96) (Go.Ax.mkSt k22S4 6)) = true := by kernel_rfl
theorem k22p6 : Go.Ax.gcB 0 .normal [0, 1, 2, 3, 4, 5] k22F6 96 k22S6 6 ((Go.Ax.M En (Go.Ax.drawA En) smT 300).ex none k22C3 (Go.Ax.xFr k22F5 96) (Go.Ax.mkSt k22S5 6)) = true := by kernel_rfl
theorem k22p7 : Go.Ax.gcB 0 .normal [0, 1, 2, 3, 4, 5, 6, 7] k22F7 96 k22S7 8 ((Go.Ax.M En (Go.Ax.drawA En) smT 300).ex none k22C4 (Go.Ax.xFr k22F6 96) (Go.Ax.mkSt k22S6 6)) = true := by kernel_rfl
theorem k22p8 : Go.Ax.gcB 0 .normal [0, 1, 2, 3, 4, 5, 6, 7, 29] k22F8 96 k22S8 9 ((Go.Ax.M En (Go.Ax.drawA En) smT 300).ex none k22C5 (Go.Ax.xFr k22F7 96) (Go.Ax.mkSt k22S7 8)) = true := by kernel_rfl
theorem k22p9 : Go.Ax.gcB 0 .normal [0, 1, 2, 3, 4, 5, 6, 7] k22F9 96 k22S9 8 ((Go.Ax.M En (Go.Ax.drawA En) smT 300).ex none k22C6 (Go.Ax.xFr k22F8 96) (Go.Ax.mkSt k22S8 9)) = true := by kernel_rfl
theorem k22p10 : Go.Ax.gcB 0 .normal [0, 1, 2, 3, 4, 5, 6, 7] k22F10 96 k22S10 8 ((Go.Ax.M En (Go.Ax.drawA En) smT 300).ex none k22C7 (Go.Ax.xFr k22F9 96) (Go.Ax.mkSt k22S9 8)) = true := by kernel_rfl
theorem k22p11 : Go.Ax.gcB 0 .normal [0, 1, 2, 3, 4, 5, 29] k22F11 96 k22S11 7 ((Go.Ax.M En (Go.Ax.drawA En) smT 300).ex none k22C8 (Go.Ax.xFr k22F10 96) (Go.Ax.mkSt k22S10 8)) = true := by kernel_rfl
theorem k22p12 : Go.Ax.gcB 0 .normal [6, 17] k22F12 96 k22S12 2 ((Go.Ax.M En (Go.Ax.drawA En) smT 300).ex none k22C9 (Go.Ax.xFr k22F11 96) (Go.Ax.mkSt k22S11 7)) = true := by kernel_rfl
theorem k22p13 : Go.Ax.gcB 0 .normal [] k22F13 96 k22S13 0 ((Go.Ax.M En (Go.Ax.drawA En) smT 300).ex none k22C10 (Go.Ax.xFr k22F12 96) (Go.Ax.mkSt k22S12 2)) = true := by kernel_rfl
theorem k22pE : Go.Ax.lastB En Tryz.f22 ((Go.Ax.M En (Go.Ax.drawA En) smT 300).ex none k22C11 (Go.Ax.xFr k22F13 96) (Go.Ax.mkSt k22S13 0)) = true := by kernel_rfl

theorem k22n1_1_call : Go.Ax.Trip Tryz.prog 1 none (.seq m23C0 (.seq m23C1 (.seq m23C2 (.seq m23C3 (.seq m23C4 (.seq m23C5 (.seq m23C6 m23C7))))))) ({ m := Go.Ax.putArgs k22n1_1_as 0 .e, n := Tryz.f23.ntmps, defs := [] } : Go.Ax.AFr) (Go.Ax.mkSt k22S2 1) fun r => (r.1 = .normal ∨ r.1 = .ret) ∧ Go.Ax.leaveA En Tryz.f23 r.2.1 r.2.2 = some (k22n1_1_v, (Go.Ax.mkSt k22n1_1_S6 7)) :=
  Go.Ax.Trip.seqB EnOk smT_ok [0] k22n1_1_p0 <|
  Go.Ax.Trip.seqB EnOk smT_ok [0, 1, 2, 3] k22n1_1_p1 <|
  Go.Ax.Trip.seqB EnOk smT_ok [0, 1, 2, 3] k22n1_1_p2 <|
  Go.Ax.Trip.seqB EnOk smT_ok [0, 1, 2, 3, 4, 640, 697] k22n1_1_p3 <|
  Go.Ax.Trip.seqB EnOk smT_ok [0, 1, 2, 3, 4, 5, 6] k22n1_1_p4 <|
  Go.Ax.Trip.seqB EnOk smT_ok [0, 1, 2, 3, 4, 5, 6] k22n1_1_p5 <|
  Go.Ax.Trip.seqB EnOk smT_ok [0, 1, 2, 3, 4, 5, 6] k22n1_1_p6 <|
  lastV_trip EnOk smT_ok k22n1_1_pE
theorem k22trip : Go.Ax.Trip Tryz.prog 0 none (.seq k22C0 (.seq k22C1 (.seq k22C2 (.seq k22C3 (.seq k22C4 (.seq k22C5 (.seq k22C6 (.seq k22C7 (.seq k22C8 (.seq k22C9 (.seq k22C10 k22C11))))))))))) { m := .e, n := Tryz.f22.ntmps, defs := [] } Go.Ax.st0 fun r => (r.1 = .normal ∨ r.1 = .ret) ∧ Go.Ax.isTrue (Go.Ax.leaveA En Tryz.f22 r.2.1 r.2.2) = true :=
  Go.Ax.Trip.seqB EnOk smT_ok [] k22p1 <|
  Go.Ax.Trip.seqT (Go.Ax.Trip.ofRegion (by kernel_rfl) <| Go.Ax.TripO.runB EnOk smT_ok 1 [0] k22p2 <| callB EnOk smT_ok k22n1_1_o (by kernel_rfl) (by kernel_rfl) (by kernel_rfl : En.fn.get 23 = some Tryz.f23) m23shape (by kernel_rfl) k22n1_1_hop k22n1_1_put k22n1_1_call <| Go.Ax.TripO.runB EnOk smT_ok 0 [1, 2, 3, 4, 5, 6] k22p3 <| Go.Ax.TripO.runB EnOk smT_ok 1 [0, 1, 2, 3, 4, 5] k22p4 <| Go.Ax.TripO.end_ (by kernel_rfl) ⟨rfl, Go.Ax.Wk.refl _ _ _⟩) <|
  Go.Ax.Trip.seqB EnOk smT_ok [0, 1, 2, 3, 4, 5] k22p5 <|
  Go.Ax.Trip.seqB EnOk smT_ok [0, 1, 2, 3, 4, 5] k22p6 <|
  Go.Ax.Trip.seqB EnOk smT_ok [0, 1, 2, 3, 4, 5, 6, 7] k22p7 <|
  Go.Ax.Trip.seqB EnOk smT_ok [0, 1, 2, 3, 4, 5, 6, 7, 29] k22p8 <|
  Go.Ax.Trip.seqB EnOk smT_ok [0, 1, 2, 3, 4, 5, 6, 7] k22p9 <|
  Go.Ax.Trip.seqB EnOk smT_ok [0, 1, 2, 3, 4, 5, 6, 7] k22p10 <|
  Go.Ax.Trip.seqB EnOk smT_ok [0, 1, 2, 3, 4, 5, 29] k22p11 <|
  Go.Ax.Trip.seqB EnOk smT_ok [6, 17] k22p12 <|
  Go.Ax.Trip.seqB EnOk smT_ok [] k22p13 <|
  Go.Ax.Trip.lastB EnOk smT_ok k22pE
theorem memo22 : Go.Ax.MemoOK Tryz.prog ⟨22, [], .bool true⟩ := Go.Ax.trip_memo EnOk (by kernel_rfl) k22shape Tryz.call22 k22trip
theorem sm22_ok : Go.Ax.CallsOK Tryz.prog sm22 := Go.Ax.orC_ok (Go.Ax.sumC_ok (l := [⟨22, [], .bool true⟩]) ⟨memo22, trivial⟩) smT_ok

theorem walk (w : World) (hgl : Go.Ax.GlobOK w) : Calls Tryz.prog 5 #[] w fun e w' => e = .returned (.bool true) ∧ Below w.heap.size w w' :=
  Go.Ax.closed_true' (Go.Ax.envEx_ok (xs := [(200, Go.Ax.add64A)]) fnsOk ⟨shaPart.add_ok, trivial⟩ mixed) sm22_ok runs w hgl

/-! ### The row's step -/
def laidAll : List (String × DataW Unit) := [("math/bits.deBruijn64tab", Rows.laid_math_bits_deBruijn64tab)]

theorem door_met (os : Os) (args : Array Value) : laidMetH Tryz.prog laidAll ((World.doorLaid Tryz.prog 400 os).forCall (fun _ _ => 0) ⟨#[], args, []⟩).memory :=
  laidMetH_of_parts3 (fuel := 8) (laidMet_of_run' 8 (by kernel_rfl) (by kernel_rfl)) (by kernel_rfl) (by kernel_rfl)

set_option maxRecDepth 100000 in
theorem lifted (os : Os) (started : os.Started) (H : Type) (enc : TypeId × Value → H) :
    ReturnsInHanded {} Tryz.checked os 5 .any (fun w args => (Rows.resyncNilSpec.pre enc Tryz.prog Tryz.f5 [] false w args ∧ laidMetH Tryz.prog laidAll w) ∧ sizedMet enc Tryz.prog Tryz.f5 (OpenSpec.ofChange Rows.resyncNilSpec) false w args)
      (Rows.resyncNilSpec.post enc Tryz.prog Tryz.f5 false true false false) := by
  refine returnsInHanded_of_change_and (C := Tryz.checked) (X := fun w _ => laidMetH Tryz.prog laidAll w) (fun _ _ _ hh h => h.of_heap hh) own started (by kernel_rfl) Tryz.func5
    (ChangeSpec.witness_shaped (enc := enc) (C := Tryz.checked) (os := os) (X := fun w _ => laidMetH Tryz.prog laidAll w) false (World.doorLaid Tryz.prog 400 os) #[] 8 rfl (World.shaped_of_RefB (by kernel_rfl) (by kernel_rfl)) (by kernel_rfl) (by kernel_rfl) (by kernel_rfl) (door_met os _)) ?_
  intro W base args ds gs before hval0 hW _ _ hL _
  have hval : ∀ (j : Nat) t v, Tryz.f5.params[j]? = some t → args[j]? = some v → Value.okWide Tryz.prog W .any base t v := hval0
  have hW' := hW
  obtain ⟨p, q, hA0, hV, rfl, hfz, hnd⟩ := hW
  have hA : DataW.TrodAll enc Tryz.prog W 0 (fun _ => true) true Tryz.f5.params.toList args.toList ds p := hA0
  rw [Tryz.params5] at hA hval
  obtain ⟨rfl, rfl, rfl⟩ := trodAll_none hA
  obtain ⟨rfl, rfl⟩ := trodVars_none hV
  clear hA0 hval0
  refine (walk W (globPart.globOK hL)).mono fun e W' ⟨he, bel⟩ => ?_
  subst he
  exact ⟨_, rfl, _, _, _, [], _, [], hW', trodAll_mk1 (shut_bool Tryz.underlying4 _), trodAll_mk0, rfl, bel.frame _, fun h => by cases h⟩

theorem over : Rows.resyncNilRow.holds Tryz.pinned (OpenSpec.ofChange Rows.resyncNilSpec) :=
  OpenClaim.holds_of_wide 5 Tryz.f5 rfl rfl rfl rfl rfl rfl rfl ⟨rfl, rfl, rfl, rfl, rfl⟩ rfl rfl rfl rfl rfl (by kernel_rfl) Tryz.func5 (by kernel_rfl)
    (of_decide_eq_true (by kernel_rfl)) (by unfold Func.isWrapper; first | (rw [if_pos (by decide +kernel)]; kernel_rfl) | (rw [if_neg (by decide +kernel)]; exact ⟨rfl, rfl⟩))
    (fun os started H enc _ => lifted os started H enc)

/-- THE STATEMENT -/
theorem proved : Rows.ResyncNilCardSaid :=
  Claim7.holds_tied_plain_at .later [] [.data] true (true, "f4aa76c60b8ecbb6d5afd2067278af2c7495113774b81d29b1389b96a4c74365") false
    over (fun _ h => by cases h) (by kernel_rfl) (fun _ h => by cases h) resyncNil_row_tie rfl ⟨rfl, rfl⟩ (by kernel_rfl) rfl
    (fun f fn hf hfn => by
      obtain rfl : f = 5 := Option.some.inj ((show Tryz.prog.funcNamed "gemel/gemellaw19.ResyncNil" = some 5 by kernel_rfl).symm.trans hf) |>.symm
      obtain rfl : fn = Tryz.f5 := (Option.some.inj (Tryz.func5.symm.trans hfn)).symm
      exact ⟨by kernel_rfl, fun j t ht => by
        rw [Tryz.params5] at ht
        simp at ht⟩)
    (by kernel_rfl)
#print axioms proved
end Go.Proofs.YthdjnhmacfmjiaaGreatDoor.resyncNil

