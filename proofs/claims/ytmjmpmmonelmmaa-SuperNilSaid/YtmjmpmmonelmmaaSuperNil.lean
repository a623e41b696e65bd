/-
  PROVED HERE: 'Rows.SuperNilSaid': the call of the law's function, which takes nothing, returns true and writes nothing that was there. No condition.
  THE WALK is an abstract run of the function's text, reckoned by the kernel ('closed_true': the texts YtmjmpmmonelmmaaAxA to YtmjmpmmonelmmaaAxU show that what such a run answers is what the program answers).
-/
import Derived.Test.YtmjmpmmonelmmaaRows
import Derived.Test.YtmjmpmmonelmmaaShaE
import Derived.WalkKit
import Derived.ProofKit
import Derived.OpenShut
import Derived.ShutString
import Derived.ChangeOld
import Derived.Below
namespace Go.Proofs.Ytmjmpmmonelmmaa.superNil
open Go.ChangeShapes Go.WideShapes Go.ChangeAt Go.RowKit
set_option linter.unusedVariables false

theorem own : ownKnob Try.prog.godebug = none := by kernel_rfl

/-! ### The tables of the functions and types that the run comes by -/
noncomputable def fns : List (Nat × Func) := [(5, Try.f5), (11, Try.f11), (18, Try.f18), (19, Try.f19), (20, Try.f20), (21, Try.f21), (23, Try.f23), (28, Try.f28), (29, Try.f29), (30, Try.f30), (31, Try.f31), (52, Try.f52), (55, Try.f55), (56, Try.f56), (57, Try.f57), (58, Try.f58), (61, Try.f61), (62, Try.f62), (63, Try.f63), (72, Try.f72), (74, Try.f74), (94, Try.f94), (95, Try.f95), (96, Try.f96), (98, Try.f98), (99, Try.f99), (120, Try.f120), (121, Try.f121), (122, Try.f122), (123, Try.f123), (146, Try.f146), (147, Try.f147), (149, Try.f149)]

theorem fnsOk : Go.Ax.AllFn Try.prog fns :=
  ⟨⟨Try.func5, Try.call5⟩, ⟨Try.func11, Try.call11⟩, ⟨Try.func18, Try.call18⟩, ⟨Try.func19, Try.call19⟩, ⟨Try.func20, Try.call20⟩, ⟨Try.func21, Try.call21⟩, ⟨Try.func23, Try.call23⟩, ⟨Try.func28, Try.call28⟩, ⟨Try.func29, Try.call29⟩, ⟨Try.func30, Try.call30⟩, ⟨Try.func31, Try.call31⟩, ⟨Try.func52, Try.call52⟩, ⟨Try.func55, Try.call55⟩, ⟨Try.func56, Try.call56⟩, ⟨Try.func57, Try.call57⟩, ⟨Try.func58, Try.call58⟩, ⟨Try.func61, Try.call61⟩, ⟨Try.func62, Try.call62⟩, ⟨Try.func63, Try.call63⟩, ⟨Try.func72, Try.call72⟩, ⟨Try.func74, Try.call74⟩, ⟨Try.func94, Try.call94⟩, ⟨Try.func95, Try.call95⟩, ⟨Try.func96, Try.call96⟩, ⟨Try.func98, Try.call98⟩, ⟨Try.func99, Try.call99⟩, ⟨Try.func120, Try.call120⟩, ⟨Try.func121, Try.call121⟩, ⟨Try.func122, Try.call122⟩, ⟨Try.func123, Try.call123⟩, ⟨Try.func146, Try.call146⟩, ⟨Try.func147, Try.call147⟩, ⟨Try.func149, Try.call149⟩, trivial⟩

theorem mixed : Try.prog.follows .mixedOrders = true := by kernel_rfl

/-! ### The run -/
theorem runs : Go.Ax.isTrue ((Go.Ax.M (Go.Ax.envEx Try.prog (List.range 229) fns [(148, Go.Ax.add64A)]) (Go.Ax.drawA (Go.Ax.envEx Try.prog (List.range 229) fns [(148, Go.Ax.add64A)])) shaPart.shaSum 300).call 5 [] Go.Ax.st0) = true := by kernel_rfl

theorem walk (w : World) : Calls Try.prog 5 #[] w fun e w' => e = .returned (.bool true) ∧ Below w.heap.size w w' :=
  Go.Ax.closed_true' (Go.Ax.envEx_ok (xs := [(148, Go.Ax.add64A)]) fnsOk ⟨shaPart.add_ok, trivial⟩ mixed) shaPart.shaSum_ok runs w

/-! ### The row's step -/
set_option maxRecDepth 100000 in
theorem lifted (os : Os) (started : os.Started) (H : Type) (enc : TypeId × Value → H) :
    ReturnsInHanded {} Try.checked os 5 .any (Rows.superNilSpec.pre6 enc Try.prog Try.f5 Rows.superNilRow.domain false) (Rows.superNilSpec.post enc Try.prog Try.f5 false true false false) := by
  refine returnsInHanded_of_change (C := Try.checked) own started (by kernel_rfl) Try.func5
    (ChangeSpec.witness6 (enc := enc) (C := Try.checked) false ⟨#[], #[], []⟩ 8 (by kernel_rfl) (by kernel_rfl) (by kernel_rfl) (by kernel_rfl)) ?_
  intro W base args ds gs before hval0 hW hcnd _
  have hval : ∀ (j : Nat) t v, Try.f5.params[j]? = some t → args[j]? = some v → Value.okWide Try.prog W .any base t v := hval0
  have hW' := hW
  obtain ⟨p, q, hA0, hV, rfl, hfz, hnd⟩ := hW
  have hA : DataW.TrodAll enc Try.prog W 0 (fun _ => true) true Try.f5.params.toList args.toList ds p := hA0
  rw [Try.params5] at hA hval
  obtain ⟨rfl, rfl, rfl⟩ := trodAll_none hA
  obtain ⟨rfl, rfl⟩ := trodVars_none hV
  clear hA0 hval0
  refine (walk W).mono fun e W' ⟨he, bel⟩ => ?_
  subst he
  exact ⟨_, rfl, _, _, _, [], _, [], hW', trodAll_mk1 (shut_bool Try.underlying4 _), trodAll_mk0, rfl, bel.frame _, fun h => by cases h⟩

theorem over : Rows.superNilRow.holds Try.pinned (OpenSpec.ofChange Rows.superNilSpec) :=
  OpenClaim.holds_of_wide 5 Try.f5 rfl rfl rfl rfl rfl rfl rfl ⟨rfl, rfl, rfl, rfl, rfl⟩ rfl rfl rfl rfl rfl (by kernel_rfl) Try.func5 (by kernel_rfl)
    (of_decide_eq_true (by kernel_rfl)) (by unfold Func.isWrapper; first | (rw [if_pos (by decide +kernel)]; kernel_rfl) | (rw [if_neg (by decide +kernel)]; exact ⟨rfl, rfl⟩))
    (fun os started H enc _ => lifted os started H enc)

/-- THE STATEMENT -/
theorem proved : Rows.SuperNilSaid := over
#print axioms proved
end Go.Proofs.Ytmjmpmmonelmmaa.superNil
