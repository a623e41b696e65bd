/-
  PROVED HERE: 'Rows.OverlapNilSaid': the call of the law's function, which takes nothing, returns true and writes nothing that was there. No condition.
  THE WALK is an abstract run of the function's text, reckoned by the kernel ('closed_true': the texts YtelehjeifhelnaaAxA to YtelehjeifhelnaaAxU show that what such a run answers is what the program answers).
-/
import Derived.Test.YtelehjeifhelnaaRows
import Derived.Test.YtelehjeifhelnaaAxU
import Derived.WalkKit
import Derived.ProofKit
import Derived.OpenShut
import Derived.ShutString
import Derived.ChangeOld
import Derived.Below
namespace Go.Proofs.Ytelehjeifhelnaa.overlapNil
open Go.ChangeShapes Go.WideShapes Go.ChangeAt Go.RowKit
set_option linter.unusedVariables false

theorem own : ownKnob Try.prog.godebug = none := by kernel_rfl

/-! ### The tables of the functions and types that the run comes by -/
noncomputable def fns : List (Nat × Func) := [(4, Try.f4), (7, Try.f7), (8, Try.f8), (10, Try.f10), (12, Try.f12), (13, Try.f13), (14, Try.f14), (15, Try.f15), (16, Try.f16), (17, Try.f17), (18, Try.f18), (40, Try.f40), (41, Try.f41), (43, Try.f43), (44, Try.f44), (45, Try.f45), (46, Try.f46), (47, Try.f47), (48, Try.f48), (49, Try.f49), (65, Try.f65), (66, Try.f66)]

theorem fnsOk : Go.Ax.AllFn Try.prog fns :=
  ⟨⟨Try.func4, Try.call4⟩, ⟨Try.func7, Try.call7⟩, ⟨Try.func8, Try.call8⟩, ⟨Try.func10, Try.call10⟩, ⟨Try.func12, Try.call12⟩, ⟨Try.func13, Try.call13⟩, ⟨Try.func14, Try.call14⟩, ⟨Try.func15, Try.call15⟩, ⟨Try.func16, Try.call16⟩, ⟨Try.func17, Try.call17⟩, ⟨Try.func18, Try.call18⟩, ⟨Try.func40, Try.call40⟩, ⟨Try.func41, Try.call41⟩, ⟨Try.func43, Try.call43⟩, ⟨Try.func44, Try.call44⟩, ⟨Try.func45, Try.call45⟩, ⟨Try.func46, Try.call46⟩, ⟨Try.func47, Try.call47⟩, ⟨Try.func48, Try.call48⟩, ⟨Try.func49, Try.call49⟩, ⟨Try.func65, Try.call65⟩, ⟨Try.func66, Try.call66⟩, trivial⟩

theorem mixed : Try.prog.follows .mixedOrders = true := by kernel_rfl

/-! ### The run -/
theorem runs : Go.Ax.isTrue ((Go.Ax.M (Go.Ax.envOf Try.prog (List.range 281) fns) (Go.Ax.drawA (Go.Ax.envOf Try.prog (List.range 281) fns)) Go.Ax.noSum 300).call 4 [] Go.Ax.st0) = true := by kernel_rfl

theorem walk (w : World) : Calls Try.prog 4 #[] w fun e w' => e = .returned (.bool true) ∧ Below w.heap.size w w' :=
  Go.Ax.closed_true fnsOk mixed runs w

/-! ### The row's step -/
set_option maxRecDepth 100000 in
theorem lifted (os : Os) (started : os.Started) (H : Type) (enc : TypeId × Value → H) :
    ReturnsInHanded {} Try.checked os 4 .any (Rows.overlapNilSpec.pre6 enc Try.prog Try.f4 Rows.overlapNilRow.domain false) (Rows.overlapNilSpec.post enc Try.prog Try.f4 false true false false) := by
  refine returnsInHanded_of_change (C := Try.checked) own started (by kernel_rfl) Try.func4
    (ChangeSpec.witness6 (enc := enc) (C := Try.checked) false ⟨#[], #[], []⟩ 8 (by kernel_rfl) (by kernel_rfl) (by kernel_rfl) (by kernel_rfl)) ?_
  intro W base args ds gs before hval0 hW hcnd _
  have hval : ∀ (j : Nat) t v, Try.f4.params[j]? = some t → args[j]? = some v → Value.okWide Try.prog W .any base t v := hval0
  have hW' := hW
  obtain ⟨p, q, hA0, hV, rfl, hfz, hnd⟩ := hW
  have hA : DataW.TrodAll enc Try.prog W 0 (fun _ => true) true Try.f4.params.toList args.toList ds p := hA0
  rw [Try.params4] at hA hval
  obtain ⟨rfl, rfl, rfl⟩ := trodAll_none hA
  obtain ⟨rfl, rfl⟩ := trodVars_none hV
  clear hA0 hval0
  refine (walk W).mono fun e W' ⟨he, bel⟩ => ?_
  subst he
  exact ⟨_, rfl, _, _, _, [], _, [], hW', trodAll_mk1 (shut_bool Try.underlying4 _), trodAll_mk0, rfl, bel.frame _, fun h => by cases h⟩

theorem over : Rows.overlapNilRow.holds Try.pinned (OpenSpec.ofChange Rows.overlapNilSpec) :=
  OpenClaim.holds_of_wide 4 Try.f4 rfl rfl rfl rfl rfl rfl rfl ⟨rfl, rfl, rfl, rfl, rfl⟩ rfl rfl rfl rfl rfl (by kernel_rfl) Try.func4 (by kernel_rfl)
    (of_decide_eq_true (by kernel_rfl)) (by unfold Func.isWrapper; first | (rw [if_pos (by decide +kernel)]; kernel_rfl) | (rw [if_neg (by decide +kernel)]; exact ⟨rfl, rfl⟩))
    (fun os started H enc _ => lifted os started H enc)

/-- THE STATEMENT -/
theorem proved : Rows.OverlapNilSaid := over
#print axioms proved
end Go.Proofs.Ytelehjeifhelnaa.overlapNil
