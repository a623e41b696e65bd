/-
  PROVED HERE: 'Rows.ActlogNilSaid': the call of the law's function, which takes nothing, returns true and writes nothing that was there. No condition.
  THE WALK is an abstract run of the function's text, reckoned by the kernel ('closed_true': the texts YtmjmpmmonelmmaaAxA to YtmjmpmmonelmmaaAxU show that what such a run answers is what the program answers).
-/
import Derived.Test.YtmjmpmmonelmmaaRows
import Derived.Test.YtmjmpmmonelmmaaShaE
import Derived.WalkKit
import Derived.ProofKit
import Derived.OpenShut
import Derived.ShutString
import Derived.ChangeOld
import Derived.Below
namespace Go.Proofs.Ytmjmpmmonelmmaa.actlogNil
open Go.ChangeShapes Go.WideShapes Go.ChangeAt Go.RowKit
set_option linter.unusedVariables false

theorem own : ownKnob Try.prog.godebug = none := by kernel_rfl

/-! ### The tables of the functions and types that the run comes by -/
noncomputable def fns : List (Nat × Func) := [(6, Try.f6), (11, Try.f11), (18, Try.f18), (19, Try.f19), (20, Try.f20), (21, Try.f21), (32, Try.f32), (33, Try.f33), (34, Try.f34), (35, Try.f35), (36, Try.f36), (37, Try.f37), (38, Try.f38), (39, Try.f39), (40, Try.f40), (52, Try.f52), (55, Try.f55), (56, Try.f56), (57, Try.f57), (58, Try.f58), (64, Try.f64), (65, Try.f65), (66, Try.f66), (67, Try.f67), (68, Try.f68), (69, Try.f69), (70, Try.f70), (71, Try.f71), (72, Try.f72), (74, Try.f74), (97, Try.f97), (98, Try.f98), (99, Try.f99), (121, Try.f121), (122, Try.f122), (123, Try.f123), (146, Try.f146), (147, Try.f147), (149, Try.f149)]

theorem fnsOk : Go.Ax.AllFn Try.prog fns :=
  ⟨⟨Try.func6, Try.call6⟩, ⟨Try.func11, Try.call11⟩, ⟨Try.func18, Try.call18⟩, ⟨Try.func19, Try.call19⟩, ⟨Try.func20, Try.call20⟩, ⟨Try.func21, Try.call21⟩, ⟨Try.func32, Try.call32⟩, ⟨Try.func33, Try.call33⟩, ⟨Try.func34, Try.call34⟩, ⟨Try.func35, Try.call35⟩, ⟨Try.func36, Try.call36⟩, ⟨Try.func37, Try.call37⟩, ⟨Try.func38, Try.call38⟩, ⟨Try.func39, Try.call39⟩, ⟨Try.func40, Try.call40⟩, ⟨Try.func52, Try.call52⟩, ⟨Try.func55, Try.call55⟩, ⟨Try.func56, Try.call56⟩, ⟨Try.func57, Try.call57⟩, ⟨Try.func58, Try.call58⟩, ⟨Try.func64, Try.call64⟩, ⟨Try.func65, Try.call65⟩, ⟨Try.func66, Try.call66⟩, ⟨Try.func67, Try.call67⟩, ⟨Try.func68, Try.call68⟩, ⟨Try.func69, Try.call69⟩, ⟨Try.func70, Try.call70⟩, ⟨Try.func71, Try.call71⟩, ⟨Try.func72, Try.call72⟩, ⟨Try.func74, Try.call74⟩, ⟨Try.func97, Try.call97⟩, ⟨Try.func98, Try.call98⟩, ⟨Try.func99, Try.call99⟩, ⟨Try.func121, Try.call121⟩, ⟨Try.func122, Try.call122⟩, ⟨Try.func123, Try.call123⟩, ⟨Try.func146, Try.call146⟩, ⟨Try.func147, Try.call147⟩, ⟨Try.func149, Try.call149⟩, trivial⟩

theorem mixed : Try.prog.follows .mixedOrders = true := by kernel_rfl

/-! ### The run -/
theorem runs : Go.Ax.isTrue ((Go.Ax.M (Go.Ax.envEx Try.prog (List.range 229) fns [(148, Go.Ax.add64A)]) (Go.Ax.drawA (Go.Ax.envEx Try.prog (List.range 229) fns [(148, Go.Ax.add64A)])) shaPart.shaSum 300).call 6 [] Go.Ax.st0) = true := by kernel_rfl

theorem walk (w : World) : Calls Try.prog 6 #[] w fun e w' => e = .returned (.bool true) ∧ Below w.heap.size w w' :=
  Go.Ax.closed_true' (Go.Ax.envEx_ok (xs := [(148, Go.Ax.add64A)]) fnsOk ⟨shaPart.add_ok, trivial⟩ mixed) shaPart.shaSum_ok runs w

/-! ### The row's step -/
set_option maxRecDepth 100000 in
theorem lifted (os : Os) (started : os.Started) (H : Type) (enc : TypeId × Value → H) :
    ReturnsInHanded {} Try.checked os 6 .any (Rows.actlogNilSpec.pre6 enc Try.prog Try.f6 Rows.actlogNilRow.domain false) (Rows.actlogNilSpec.post enc Try.prog Try.f6 false true false false) := by
  refine returnsInHanded_of_change (C := Try.checked) own started (by kernel_rfl) Try.func6
    (ChangeSpec.witness6 (enc := enc) (C := Try.checked) false ⟨#[], #[], []⟩ 8 (by kernel_rfl) (by kernel_rfl) (by kernel_rfl) (by kernel_rfl)) ?_
  intro W base args ds gs before hval0 hW hcnd _
  have hval : ∀ (j : Nat) t v, Try.f6.params[j]? = some t → args[j]? = some v → Value.okWide Try.prog W .any base t v := hval0
  have hW' := hW
  obtain ⟨p, q, hA0, hV, rfl, hfz, hnd⟩ := hW
  have hA : DataW.TrodAll enc Try.prog W 0 (fun _ => true) true Try.f6.params.toList args.toList ds p := hA0
  rw [Try.params6] at hA hval
  obtain ⟨rfl, rfl, rfl⟩ := trodAll_none hA
  obtain ⟨rfl, rfl⟩ := trodVars_none hV
  clear hA0 hval0
  refine (walk W).mono fun e W' ⟨he, bel⟩ => ?_
  subst he
  exact ⟨_, rfl, _, _, _, [], _, [], hW', trodAll_mk1 (shut_bool Try.underlying4 _), trodAll_mk0, rfl, bel.frame _, fun h => by cases h⟩

theorem over : Rows.actlogNilRow.holds Try.pinned (OpenSpec.ofChange Rows.actlogNilSpec) :=
  OpenClaim.holds_of_wide 6 Try.f6 rfl rfl rfl rfl rfl rfl rfl ⟨rfl, rfl, rfl, rfl, rfl⟩ rfl rfl rfl rfl rfl (by kernel_rfl) Try.func6 (by kernel_rfl)
    (of_decide_eq_true (by kernel_rfl)) (by unfold Func.isWrapper; first | (rw [if_pos (by decide +kernel)]; kernel_rfl) | (rw [if_neg (by decide +kernel)]; exact ⟨rfl, rfl⟩))
    (fun os started H enc _ => lifted os started H enc)

/-- THE STATEMENT -/
theorem proved : Rows.ActlogNilSaid := over
#print axioms proved
end Go.Proofs.Ytmjmpmmonelmmaa.actlogNil
