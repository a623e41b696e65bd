/-
  PROVED HERE: 'Rows.ReserveNilSaid': the call of the law's function, which takes nothing, returns true and writes nothing that was there. No condition.
  THE WALK is an abstract run of the function's text, reckoned by the kernel ('closed_true': the texts YtmjmpmmonelmmaaAxA to YtmjmpmmonelmmaaAxU show that what such a run answers is what the program answers).
-/
import Derived.Test.YtmjmpmmonelmmaaRows
import Derived.Test.YtmjmpmmonelmmaaAxU
import Derived.WalkKit
import Derived.ProofKit
import Derived.OpenShut
import Derived.ShutString
import Derived.ChangeOld
import Derived.Below
namespace Go.Proofs.Ytmjmpmmonelmmaa.reserveNil
open Go.ChangeShapes Go.WideShapes Go.ChangeAt Go.RowKit
set_option linter.unusedVariables false

theorem own : ownKnob Try.prog.godebug = none := by kernel_rfl

/-! ### The tables of the functions and types that the run comes by -/
noncomputable def fns : List (Nat × Func) := [(8, Try.f8), (18, Try.f18), (19, Try.f19), (20, Try.f20), (21, Try.f21), (46, Try.f46), (47, Try.f47), (48, Try.f48), (49, Try.f49), (50, Try.f50), (51, Try.f51), (52, Try.f52), (55, Try.f55), (56, Try.f56), (57, Try.f57), (58, Try.f58), (72, Try.f72), (81, Try.f81), (82, Try.f82), (83, Try.f83), (84, Try.f84), (85, Try.f85), (86, Try.f86), (87, Try.f87), (88, Try.f88), (89, Try.f89), (98, Try.f98), (99, Try.f99), (103, Try.f103), (104, Try.f104), (105, Try.f105), (106, Try.f106), (107, Try.f107), (108, Try.f108), (109, Try.f109), (110, Try.f110), (111, Try.f111), (112, Try.f112), (113, Try.f113), (114, Try.f114), (115, Try.f115), (116, Try.f116), (121, Try.f121), (122, Try.f122), (123, Try.f123), (126, Try.f126), (127, Try.f127), (128, Try.f128), (129, Try.f129), (130, Try.f130), (131, Try.f131), (132, Try.f132), (133, Try.f133), (134, Try.f134), (146, Try.f146), (147, Try.f147), (149, Try.f149), (152, Try.f152), (153, Try.f153), (154, Try.f154), (155, Try.f155), (156, Try.f156), (163, Try.f163)]

theorem fnsOk : Go.Ax.AllFn Try.prog fns :=
  ⟨⟨Try.func8, Try.call8⟩, ⟨Try.func18, Try.call18⟩, ⟨Try.func19, Try.call19⟩, ⟨Try.func20, Try.call20⟩, ⟨Try.func21, Try.call21⟩, ⟨Try.func46, Try.call46⟩, ⟨Try.func47, Try.call47⟩, ⟨Try.func48, Try.call48⟩, ⟨Try.func49, Try.call49⟩, ⟨Try.func50, Try.call50⟩, ⟨Try.func51, Try.call51⟩, ⟨Try.func52, Try.call52⟩, ⟨Try.func55, Try.call55⟩, ⟨Try.func56, Try.call56⟩, ⟨Try.func57, Try.call57⟩, ⟨Try.func58, Try.call58⟩, ⟨Try.func72, Try.call72⟩, ⟨Try.func81, Try.call81⟩, ⟨Try.func82, Try.call82⟩, ⟨Try.func83, Try.call83⟩, ⟨Try.func84, Try.call84⟩, ⟨Try.func85, Try.call85⟩, ⟨Try.func86, Try.call86⟩, ⟨Try.func87, Try.call87⟩, ⟨Try.func88, Try.call88⟩, ⟨Try.func89, Try.call89⟩, ⟨Try.func98, Try.call98⟩, ⟨Try.func99, Try.call99⟩, ⟨Try.func103, Try.call103⟩, ⟨Try.func104, Try.call104⟩, ⟨Try.func105, Try.call105⟩, ⟨Try.func106, Try.call106⟩, ⟨Try.func107, Try.call107⟩, ⟨Try.func108, Try.call108⟩, ⟨Try.func109, Try.call109⟩, ⟨Try.func110, Try.call110⟩, ⟨Try.func111, Try.call111⟩, ⟨Try.func112, Try.call112⟩, ⟨Try.func113, Try.call113⟩, ⟨Try.func114, Try.call114⟩, ⟨Try.func115, Try.call115⟩, ⟨Try.func116, Try.call116⟩, ⟨Try.func121, Try.call121⟩, ⟨Try.func122, Try.call122⟩, ⟨Try.func123, Try.call123⟩, ⟨Try.func126, Try.call126⟩, ⟨Try.func127, Try.call127⟩, ⟨Try.func128, Try.call128⟩, ⟨Try.func129, Try.call129⟩, ⟨Try.func130, Try.call130⟩, ⟨Try.func131, Try.call131⟩, ⟨Try.func132, Try.call132⟩, ⟨Try.func133, Try.call133⟩, ⟨Try.func134, Try.call134⟩, ⟨Try.func146, Try.call146⟩, ⟨Try.func147, Try.call147⟩, ⟨Try.func149, Try.call149⟩, ⟨Try.func152, Try.call152⟩, ⟨Try.func153, Try.call153⟩, ⟨Try.func154, Try.call154⟩, ⟨Try.func155, Try.call155⟩, ⟨Try.func156, Try.call156⟩, ⟨Try.func163, Try.call163⟩, trivial⟩

theorem mixed : Try.prog.follows .mixedOrders = true := by kernel_rfl

/-! ### The run -/
theorem runs : Go.Ax.isTrue ((Go.Ax.M (Go.Ax.envOf Try.prog (List.range 229) fns) (Go.Ax.drawA (Go.Ax.envOf Try.prog (List.range 229) fns)) Go.Ax.noSum 300).call 8 [] Go.Ax.st0) = true := by kernel_rfl

theorem walk (w : World) : Calls Try.prog 8 #[] w fun e w' => e = .returned (.bool true) ∧ Below w.heap.size w w' :=
  Go.Ax.closed_true fnsOk mixed runs w

/-! ### The row's step -/
set_option maxRecDepth 100000 in
theorem lifted (os : Os) (started : os.Started) (H : Type) (enc : TypeId × Value → H) :
    ReturnsInHanded {} Try.checked os 8 .any (Rows.reserveNilSpec.pre6 enc Try.prog Try.f8 Rows.reserveNilRow.domain false) (Rows.reserveNilSpec.post enc Try.prog Try.f8 false true false false) := by
  refine returnsInHanded_of_change (C := Try.checked) own started (by kernel_rfl) Try.func8
    (ChangeSpec.witness6 (enc := enc) (C := Try.checked) false ⟨#[], #[], []⟩ 8 (by kernel_rfl) (by kernel_rfl) (by kernel_rfl) (by kernel_rfl)) ?_
  intro W base args ds gs before hval0 hW hcnd _
  have hval : ∀ (j : Nat) t v, Try.f8.params[j]? = some t → args[j]? = some v → Value.okWide Try.prog W .any base t v := hval0
  have hW' := hW
  obtain ⟨p, q, hA0, hV, rfl, hfz, hnd⟩ := hW
  have hA : DataW.TrodAll enc Try.prog W 0 (fun _ => true) true Try.f8.params.toList args.toList ds p := hA0
  rw [Try.params8] at hA hval
  obtain ⟨rfl, rfl, rfl⟩ := trodAll_none hA
  obtain ⟨rfl, rfl⟩ := trodVars_none hV
  clear hA0 hval0
  refine (walk W).mono fun e W' ⟨he, bel⟩ => ?_
  subst he
  exact ⟨_, rfl, _, _, _, [], _, [], hW', trodAll_mk1 (shut_bool Try.underlying4 _), trodAll_mk0, rfl, bel.frame _, fun h => by cases h⟩

theorem over : Rows.reserveNilRow.holds Try.pinned (OpenSpec.ofChange Rows.reserveNilSpec) :=
  OpenClaim.holds_of_wide 8 Try.f8 rfl rfl rfl rfl rfl rfl rfl ⟨rfl, rfl, rfl, rfl, rfl⟩ rfl rfl rfl rfl rfl (by kernel_rfl) Try.func8 (by kernel_rfl)
    (of_decide_eq_true (by kernel_rfl)) (by unfold Func.isWrapper; first | (rw [if_pos (by decide +kernel)]; kernel_rfl) | (rw [if_neg (by decide +kernel)]; exact ⟨rfl, rfl⟩))
    (fun os started H enc _ => lifted os started H enc)

/-- THE STATEMENT -/
theorem proved : Rows.ReserveNilSaid := over
#print axioms proved
end Go.Proofs.Ytmjmpmmonelmmaa.reserveNil
