/-
  PROVED HERE: 'Rows.MessageNamesSaid': the call of the law's function, which takes nothing, returns true and writes nothing that was there. No condition.
  THE WALK is an abstract run of the function's text, reckoned by the kernel ('closed_true': the texts YtlnohbilfogheaaAxA to YtlnohbilfogheaaEqS show that what such a run answers is what the program answers).
-/
import Derived.Test.YtlnohbilfogheaaRows
import Derived.Test.YtlnohbilfogheaaEqS
import Derived.WalkKit
import Derived.ProofKit
import Derived.OpenShut
import Derived.ShutString
import Derived.ChangeOld
import Derived.Below
namespace Go.Proofs.Ytlnohbilfogheaa.messageNames
open Go.ChangeShapes Go.WideShapes Go.ChangeAt Go.RowKit
set_option linter.unusedVariables false

theorem own : ownKnob Try.prog.godebug = none := by kernel_rfl

/-! ### The tables of the functions and types that the run comes by -/
noncomputable def fns : List (Nat × Func) := [(8, Try.f8), (14, Try.f14), (28, Try.f28), (29, Try.f29), (30, Try.f30), (31, Try.f31), (32, Try.f32), (36, Try.f36), (37, Try.f37), (38, Try.f38), (43, Try.f43), (44, Try.f44), (46, Try.f46), (47, Try.f47), (62, Try.f62), (63, Try.f63), (65, Try.f65), (71, Try.f71), (72, Try.f72), (73, Try.f73), (74, Try.f74), (78, Try.f78), (79, Try.f79), (93, Try.f93), (96, Try.f96), (97, Try.f97), (98, Try.f98), (99, Try.f99), (100, Try.f100), (101, Try.f101), (102, Try.f102), (103, Try.f103), (104, Try.f104), (105, Try.f105), (106, Try.f106), (107, Try.f107), (108, Try.f108), (109, Try.f109), (110, Try.f110), (111, Try.f111), (112, Try.f112), (113, Try.f113), (114, Try.f114), (115, Try.f115), (116, Try.f116), (117, Try.f117), (118, Try.f118), (127, Try.f127), (128, Try.f128), (129, Try.f129), (130, Try.f130), (131, Try.f131), (132, Try.f132), (133, Try.f133), (134, Try.f134), (135, Try.f135), (136, Try.f136), (137, Try.f137), (138, Try.f138), (139, Try.f139), (140, Try.f140), (141, Try.f141), (142, Try.f142), (143, Try.f143), (144, Try.f144), (145, Try.f145), (146, Try.f146)]

theorem fnsOk : Go.Ax.AllFn Try.prog fns :=
  ⟨⟨Try.func8, Try.call8⟩, ⟨Try.func14, Try.call14⟩, ⟨Try.func28, Try.call28⟩, ⟨Try.func29, Try.call29⟩, ⟨Try.func30, Try.call30⟩, ⟨Try.func31, Try.call31⟩, ⟨Try.func32, Try.call32⟩, ⟨Try.func36, Try.call36⟩, ⟨Try.func37, Try.call37⟩, ⟨Try.func38, Try.call38⟩, ⟨Try.func43, Try.call43⟩, ⟨Try.func44, Try.call44⟩, ⟨Try.func46, Try.call46⟩, ⟨Try.func47, Try.call47⟩, ⟨Try.func62, Try.call62⟩, ⟨Try.func63, Try.call63⟩, ⟨Try.func65, Try.call65⟩, ⟨Try.func71, Try.call71⟩, ⟨Try.func72, Try.call72⟩, ⟨Try.func73, Try.call73⟩, ⟨Try.func74, Try.call74⟩, ⟨Try.func78, Try.call78⟩, ⟨Try.func79, Try.call79⟩, ⟨Try.func93, Try.call93⟩, ⟨Try.func96, Try.call96⟩, ⟨Try.func97, Try.call97⟩, ⟨Try.func98, Try.call98⟩, ⟨Try.func99, Try.call99⟩, ⟨Try.func100, Try.call100⟩, ⟨Try.func101, Try.call101⟩, ⟨Try.func102, Try.call102⟩, ⟨Try.func103, Try.call103⟩, ⟨Try.func104, Try.call104⟩, ⟨Try.func105, Try.call105⟩, ⟨Try.func106, Try.call106⟩, ⟨Try.func107, Try.call107⟩, ⟨Try.func108, Try.call108⟩, ⟨Try.func109, Try.call109⟩, ⟨Try.func110, Try.call110⟩, ⟨Try.func111, Try.call111⟩, ⟨Try.func112, Try.call112⟩, ⟨Try.func113, Try.call113⟩, ⟨Try.func114, Try.call114⟩, ⟨Try.func115, Try.call115⟩, ⟨Try.func116, Try.call116⟩, ⟨Try.func117, Try.call117⟩, ⟨Try.func118, Try.call118⟩, ⟨Try.func127, Try.call127⟩, ⟨Try.func128, Try.call128⟩, ⟨Try.func129, Try.call129⟩, ⟨Try.func130, Try.call130⟩, ⟨Try.func131, Try.call131⟩, ⟨Try.func132, Try.call132⟩, ⟨Try.func133, Try.call133⟩, ⟨Try.func134, Try.call134⟩, ⟨Try.func135, Try.call135⟩, ⟨Try.func136, Try.call136⟩, ⟨Try.func137, Try.call137⟩, ⟨Try.func138, Try.call138⟩, ⟨Try.func139, Try.call139⟩, ⟨Try.func140, Try.call140⟩, ⟨Try.func141, Try.call141⟩, ⟨Try.func142, Try.call142⟩, ⟨Try.func143, Try.call143⟩, ⟨Try.func144, Try.call144⟩, ⟨Try.func145, Try.call145⟩, ⟨Try.func146, Try.call146⟩, trivial⟩

theorem mixed : Try.prog.follows .mixedOrders = true := by kernel_rfl

/-! ### The run -/
theorem runs : Go.Ax.isTrue ((Go.Ax.M (Go.Ax.envOf Try.prog (List.range 190) fns) (Go.Ax.drawA (Go.Ax.envOf Try.prog (List.range 190) fns)) (Go.Ax.sumEqS 65) 300).call 8 [] Go.Ax.st0) = true := by kernel_rfl

theorem walk (w : World) : Calls Try.prog 8 #[] w fun e w' => e = .returned (.bool true) ∧ Below w.heap.size w w' :=
  Go.Ax.closed_true' (Go.Ax.envOf_ok fnsOk mixed) eqs.ok runs w

/-! ### The row's step -/
set_option maxRecDepth 100000 in
theorem lifted (os : Os) (started : os.Started) (H : Type) (enc : TypeId × Value → H) :
    ReturnsInHanded {} Try.checked os 8 .any (Rows.messageNamesSpec.pre6 enc Try.prog Try.f8 Rows.messageNamesRow.domain false) (Rows.messageNamesSpec.post enc Try.prog Try.f8 false true false false) := by
  refine returnsInHanded_of_change (C := Try.checked) own started (by kernel_rfl) Try.func8
    (ChangeSpec.witness6 (enc := enc) (C := Try.checked) false ⟨#[], #[], []⟩ 8 (by kernel_rfl) (by kernel_rfl) (by kernel_rfl) (by kernel_rfl)) ?_
  intro W base args ds gs before hval0 hW hcnd _
  have hval : ∀ (j : Nat) t v, Try.f8.params[j]? = some t → args[j]? = some v → Value.okWide Try.prog W .any base t v := hval0
  have hW' := hW
  obtain ⟨p, q, hA0, hV, rfl, hfz, hnd⟩ := hW
  have hA : DataW.TrodAll enc Try.prog W 0 (fun _ => true) true Try.f8.params.toList args.toList ds p := hA0
  rw [Try.params8] at hA hval
  obtain ⟨rfl, rfl, rfl⟩ := trodAll_none hA
  obtain ⟨rfl, rfl⟩ := trodVars_none hV
  clear hA0 hval0
  refine (walk W).mono fun e W' ⟨he, bel⟩ => ?_
  subst he
  exact ⟨_, rfl, _, _, _, [], _, [], hW', trodAll_mk1 (shut_bool Try.underlying4 _), trodAll_mk0, rfl, bel.frame _, fun h => by cases h⟩

theorem over : Rows.messageNamesRow.holds Try.pinned (OpenSpec.ofChange Rows.messageNamesSpec) :=
  OpenClaim.holds_of_wide 8 Try.f8 rfl rfl rfl rfl rfl rfl rfl ⟨rfl, rfl, rfl, rfl, rfl⟩ rfl rfl rfl rfl rfl (by kernel_rfl) Try.func8 (by kernel_rfl)
    (of_decide_eq_true (by kernel_rfl)) (by unfold Func.isWrapper; first | (rw [if_pos (by decide +kernel)]; kernel_rfl) | (rw [if_neg (by decide +kernel)]; exact ⟨rfl, rfl⟩))
    (fun os started H enc _ => lifted os started H enc)

/-- THE STATEMENT -/
theorem proved : Rows.MessageNamesSaid := over
#print axioms proved
end Go.Proofs.Ytlnohbilfogheaa.messageNames
