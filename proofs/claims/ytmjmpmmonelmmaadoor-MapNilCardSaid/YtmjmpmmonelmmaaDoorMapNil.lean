/-
  PROVED HERE: 'Rows.MapNilCardSaid': the call of the law's function, which takes nothing, returns true and writes nothing that was there; what the row lists is tied to the program's text by the given tie. No condition.
  THE WALK is an abstract run of the function's text, reckoned by the kernel ('closed_true': the texts YtmjmpmmonelmmaaDoorAxA to YtmjmpmmonelmmaaDoorAxU show that what such a run answers is what the program answers).
-/
import Derived.Test.YtmjmpmmonelmmaaDoorRows
import Derived.Test.YtmjmpmmonelmmaaDoorCards
import Derived.Test.YtmjmpmmonelmmaaDoorTie
import Derived.Test.YtmjmpmmonelmmaaDoorAxU
import Derived.WalkKit
import Derived.ProofKit
import Derived.LaidMore
import Derived.OpenShut
import Derived.ShutString
import Derived.ChangeOld
import Derived.Below
import Derived.SevenTiedAt
import Derived.Stop.Joined
namespace Go.Proofs.YtmjmpmmonelmmaaDoor.mapNil
open Go.ChangeShapes Go.WideShapes Go.ChangeAt Go.RowKit
set_option linter.unusedVariables false

theorem own : ownKnob Tryd.prog.godebug = none := by kernel_rfl

/-! ### The tables of the functions and types that the run comes by -/
noncomputable def fns : List (Nat × Func) := [(3, Tryd.f3), (4, Tryd.f4), (5, Tryd.f5), (6, Tryd.f6), (7, Tryd.f7), (8, Tryd.f8), (9, Tryd.f9), (10, Tryd.f10), (11, Tryd.f11), (12, Tryd.f12), (13, Tryd.f13), (14, Tryd.f14), (15, Tryd.f15), (16, Tryd.f16), (17, Tryd.f17), (18, Tryd.f18), (19, Tryd.f19), (20, Tryd.f20), (21, Tryd.f21), (22, Tryd.f22), (23, Tryd.f23), (24, Tryd.f24), (25, Tryd.f25), (26, Tryd.f26), (27, Tryd.f27), (28, Tryd.f28), (29, Tryd.f29), (30, Tryd.f30), (31, Tryd.f31), (32, Tryd.f32), (33, Tryd.f33), (34, Tryd.f34), (35, Tryd.f35), (36, Tryd.f36), (37, Tryd.f37), (38, Tryd.f38), (39, Tryd.f39), (40, Tryd.f40), (41, Tryd.f41), (42, Tryd.f42), (43, Tryd.f43), (44, Tryd.f44), (45, Tryd.f45), (47, Tryd.f47)]

theorem fnsOk : Go.Ax.AllFn Tryd.prog fns :=
  ⟨⟨Tryd.func3, Tryd.call3⟩, ⟨Tryd.func4, Tryd.call4⟩, ⟨Tryd.func5, Tryd.call5⟩, ⟨Tryd.func6, Tryd.call6⟩, ⟨Tryd.func7, Tryd.call7⟩, ⟨Tryd.func8, Tryd.call8⟩, ⟨Tryd.func9, Tryd.call9⟩, ⟨Tryd.func10, Tryd.call10⟩, ⟨Tryd.func11, Tryd.call11⟩, ⟨Tryd.func12, Tryd.call12⟩, ⟨Tryd.func13, Tryd.call13⟩, ⟨Tryd.func14, Tryd.call14⟩, ⟨Tryd.func15, Tryd.call15⟩, ⟨Tryd.func16, Tryd.call16⟩, ⟨Tryd.func17, Tryd.call17⟩, ⟨Tryd.func18, Tryd.call18⟩, ⟨Tryd.func19, Tryd.call19⟩, ⟨Tryd.func20, Tryd.call20⟩, ⟨Tryd.func21, Tryd.call21⟩, ⟨Tryd.func22, Tryd.call22⟩, ⟨Tryd.func23, Tryd.call23⟩, ⟨Tryd.func24, Tryd.call24⟩, ⟨Tryd.func25, Tryd.call25⟩, ⟨Tryd.func26, Tryd.call26⟩, ⟨Tryd.func27, Tryd.call27⟩, ⟨Tryd.func28, Tryd.call28⟩, ⟨Tryd.func29, Tryd.call29⟩, ⟨Tryd.func30, Tryd.call30⟩, ⟨Tryd.func31, Tryd.call31⟩, ⟨Tryd.func32, Tryd.call32⟩, ⟨Tryd.func33, Tryd.call33⟩, ⟨Tryd.func34, Tryd.call34⟩, ⟨Tryd.func35, Tryd.call35⟩, ⟨Tryd.func36, Tryd.call36⟩, ⟨Tryd.func37, Tryd.call37⟩, ⟨Tryd.func38, Tryd.call38⟩, ⟨Tryd.func39, Tryd.call39⟩, ⟨Tryd.func40, Tryd.call40⟩, ⟨Tryd.func41, Tryd.call41⟩, ⟨Tryd.func42, Tryd.call42⟩, ⟨Tryd.func43, Tryd.call43⟩, ⟨Tryd.func44, Tryd.call44⟩, ⟨Tryd.func45, Tryd.call45⟩, ⟨Tryd.func47, Tryd.call47⟩, trivial⟩

theorem mixed : Tryd.prog.follows .mixedOrders = true := by kernel_rfl

/-! ### The run -/
theorem runs : Go.Ax.isTrue ((Go.Ax.M (Go.Ax.envOf Tryd.prog (List.range 101) fns) (Go.Ax.drawA (Go.Ax.envOf Tryd.prog (List.range 101) fns)) Go.Ax.noSum 300).call 3 [] Go.Ax.st0) = true := by kernel_rfl

theorem walk (w : World) : Calls Tryd.prog 3 #[] w fun e w' => e = .returned (.bool true) ∧ Below w.heap.size w w' :=
  Go.Ax.closed_true fnsOk mixed runs w

/-! ### The row's step -/
def laidAll : List (String × DataW Unit) := [("math/bits.deBruijn64tab", Rows.laid_math_bits_deBruijn64tab)]

theorem door_met (os : Os) (args : Array Value) : laidMetH Tryd.prog laidAll ((World.doorLaid Tryd.prog 400 os).forCall (fun _ _ => 0) ⟨#[], args, []⟩).memory :=
  laidMetH_of_parts3 (fuel := 8) (laidMet_of_run' 8 (by kernel_rfl) (by kernel_rfl)) (by kernel_rfl) (by kernel_rfl)

set_option maxRecDepth 100000 in
theorem lifted (os : Os) (started : os.Started) (H : Type) (enc : TypeId × Value → H) :
    ReturnsInHanded {} Tryd.checked os 3 .any (fun w args => (Rows.mapNilSpec.pre enc Tryd.prog Tryd.f3 [] false w args ∧ laidMetH Tryd.prog laidAll w) ∧ sizedMet enc Tryd.prog Tryd.f3 (OpenSpec.ofChange Rows.mapNilSpec) false w args)
      (Rows.mapNilSpec.post enc Tryd.prog Tryd.f3 false true false false) := by
  refine returnsInHanded_of_change_and (C := Tryd.checked) (X := fun w _ => laidMetH Tryd.prog laidAll w) (fun _ _ _ hh h => h.of_heap hh) own started (by kernel_rfl) Tryd.func3
    (ChangeSpec.witness_shaped (enc := enc) (C := Tryd.checked) (os := os) (X := fun w _ => laidMetH Tryd.prog laidAll w) false (World.doorLaid Tryd.prog 400 os) #[] 8 rfl (World.shaped_of_RefB (by kernel_rfl) (by kernel_rfl)) (by kernel_rfl) (by kernel_rfl) (by kernel_rfl) (door_met os _)) ?_
  intro W base args ds gs before hval0 hW _ _ hL _
  have hval : ∀ (j : Nat) t v, Tryd.f3.params[j]? = some t → args[j]? = some v → Value.okWide Tryd.prog W .any base t v := hval0
  have hW' := hW
  obtain ⟨p, q, hA0, hV, rfl, hfz, hnd⟩ := hW
  have hA : DataW.TrodAll enc Tryd.prog W 0 (fun _ => true) true Tryd.f3.params.toList args.toList ds p := hA0
  rw [Tryd.params3] at hA hval
  obtain ⟨rfl, rfl, rfl⟩ := trodAll_none hA
  obtain ⟨rfl, rfl⟩ := trodVars_none hV
  clear hA0 hval0
  refine (walk W).mono fun e W' ⟨he, bel⟩ => ?_
  subst he
  exact ⟨_, rfl, _, _, _, [], _, [], hW', trodAll_mk1 (shut_bool Tryd.underlying4 _), trodAll_mk0, rfl, bel.frame _, fun h => by cases h⟩

theorem over : Rows.mapNilRow.holds Tryd.pinned (OpenSpec.ofChange Rows.mapNilSpec) :=
  OpenClaim.holds_of_wide 3 Tryd.f3 rfl rfl rfl rfl rfl rfl rfl ⟨rfl, rfl, rfl, rfl, rfl⟩ rfl rfl rfl rfl rfl (by kernel_rfl) Tryd.func3 (by kernel_rfl)
    (of_decide_eq_true (by kernel_rfl)) (by unfold Func.isWrapper; first | (rw [if_pos (by decide +kernel)]; kernel_rfl) | (rw [if_neg (by decide +kernel)]; exact ⟨rfl, rfl⟩))
    (fun os started H enc _ => lifted os started H enc)

/-- THE STATEMENT -/
theorem proved : Rows.MapNilCardSaid :=
  Claim7.holds_tied_plain_at .later [] [.data] true (true, "b43316762ed06264293c163665a6cb18caf4a5ee8fe6572d4aec5db921eb41df") false
    over (fun _ h => by cases h) (by kernel_rfl) (fun _ h => by cases h) mapNil_row_tie rfl ⟨rfl, rfl⟩ (by kernel_rfl) rfl
    (fun f fn hf hfn => by
      obtain rfl : f = 3 := Option.some.inj ((show Tryd.prog.funcNamed "gemel/gemellaw06.MapNil" = some 3 by kernel_rfl).symm.trans hf) |>.symm
      obtain rfl : fn = Tryd.f3 := (Option.some.inj (Tryd.func3.symm.trans hfn)).symm
      exact ⟨by kernel_rfl, fun j t ht => by
        rw [Tryd.params3] at ht
        simp at ht⟩)
    (by kernel_rfl)
#print axioms proved
end Go.Proofs.YtmjmpmmonelmmaaDoor.mapNil
