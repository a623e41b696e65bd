/-
  PROVED HERE: 'Rows.LinearNilSaid': the call of the law's function, which takes nothing, returns true and writes nothing that was there. No condition.
  THE WALK is an abstract run of the function's text, reckoned by the kernel ('closed_true': the texts YtelehjeifhelnaaAxA to YtelehjeifhelnaaAxU show that what such a run answers is what the program answers).
-/
import Derived.Test.YtelehjeifhelnaaRows
import Derived.Test.YtelehjeifhelnaaAxU
import Derived.WalkKit
import Derived.ProofKit
import Derived.OpenShut
import Derived.ShutString
import Derived.ChangeOld
import Derived.Below
namespace Go.Proofs.Ytelehjeifhelnaa.linearNil
open Go.ChangeShapes Go.WideShapes Go.ChangeAt Go.RowKit
set_option linter.unusedVariables false

theorem own : ownKnob Try.prog.godebug = none := by kernel_rfl

/-! ### The tables of the functions and types that the run comes by -/
noncomputable def fns : List (Nat × Func) := [(6, Try.f6), (33, Try.f33), (34, Try.f34), (35, Try.f35), (36, Try.f36), (59, Try.f59), (60, Try.f60), (61, Try.f61), (62, Try.f62), (63, Try.f63), (70, Try.f70), (71, Try.f71), (72, Try.f72), (73, Try.f73), (74, Try.f74), (75, Try.f75), (76, Try.f76), (77, Try.f77), (78, Try.f78), (79, Try.f79), (80, Try.f80), (81, Try.f81), (82, Try.f82), (83, Try.f83), (84, Try.f84), (85, Try.f85), (86, Try.f86), (87, Try.f87), (88, Try.f88), (89, Try.f89), (90, Try.f90), (91, Try.f91), (92, Try.f92), (93, Try.f93), (94, Try.f94), (95, Try.f95), (96, Try.f96), (97, Try.f97), (98, Try.f98), (99, Try.f99), (100, Try.f100), (101, Try.f101), (102, Try.f102), (103, Try.f103), (104, Try.f104), (105, Try.f105), (106, Try.f106), (107, Try.f107), (108, Try.f108), (109, Try.f109), (110, Try.f110), (111, Try.f111), (112, Try.f112), (113, Try.f113), (114, Try.f114), (115, Try.f115), (116, Try.f116), (117, Try.f117), (118, Try.f118), (119, Try.f119), (120, Try.f120), (121, Try.f121), (122, Try.f122), (123, Try.f123), (124, Try.f124)]

theorem fnsOk : Go.Ax.AllFn Try.prog fns :=
  ⟨⟨Try.func6, Try.call6⟩, ⟨Try.func33, Try.call33⟩, ⟨Try.func34, Try.call34⟩, ⟨Try.func35, Try.call35⟩, ⟨Try.func36, Try.call36⟩, ⟨Try.func59, Try.call59⟩, ⟨Try.func60, Try.call60⟩, ⟨Try.func61, Try.call61⟩, ⟨Try.func62, Try.call62⟩, ⟨Try.func63, Try.call63⟩, ⟨Try.func70, Try.call70⟩, ⟨Try.func71, Try.call71⟩, ⟨Try.func72, Try.call72⟩, ⟨Try.func73, Try.call73⟩, ⟨Try.func74, Try.call74⟩, ⟨Try.func75, Try.call75⟩, ⟨Try.func76, Try.call76⟩, ⟨Try.func77, Try.call77⟩, ⟨Try.func78, Try.call78⟩, ⟨Try.func79, Try.call79⟩, ⟨Try.func80, Try.call80⟩, ⟨Try.func81, Try.call81⟩, ⟨Try.func82, Try.call82⟩, ⟨Try.func83, Try.call83⟩, ⟨Try.func84, Try.call84⟩, ⟨Try.func85, Try.call85⟩, ⟨Try.func86, Try.call86⟩, ⟨Try.func87, Try.call87⟩, ⟨Try.func88, Try.call88⟩, ⟨Try.func89, Try.call89⟩, ⟨Try.func90, Try.call90⟩, ⟨Try.func91, Try.call91⟩, ⟨Try.func92, Try.call92⟩, ⟨Try.func93, Try.call93⟩, ⟨Try.func94, Try.call94⟩, ⟨Try.func95, Try.call95⟩, ⟨Try.func96, Try.call96⟩, ⟨Try.func97, Try.call97⟩, ⟨Try.func98, Try.call98⟩, ⟨Try.func99, Try.call99⟩, ⟨Try.func100, Try.call100⟩, ⟨Try.func101, Try.call101⟩, ⟨Try.func102, Try.call102⟩, ⟨Try.func103, Try.call103⟩, ⟨Try.func104, Try.call104⟩, ⟨Try.func105, Try.call105⟩, ⟨Try.func106, Try.call106⟩, ⟨Try.func107, Try.call107⟩, ⟨Try.func108, Try.call108⟩, ⟨Try.func109, Try.call109⟩, ⟨Try.func110, Try.call110⟩, ⟨Try.func111, Try.call111⟩, ⟨Try.func112, Try.call112⟩, ⟨Try.func113, Try.call113⟩, ⟨Try.func114, Try.call114⟩, ⟨Try.func115, Try.call115⟩, ⟨Try.func116, Try.call116⟩, ⟨Try.func117, Try.call117⟩, ⟨Try.func118, Try.call118⟩, ⟨Try.func119, Try.call119⟩, ⟨Try.func120, Try.call120⟩, ⟨Try.func121, Try.call121⟩, ⟨Try.func122, Try.call122⟩, ⟨Try.func123, Try.call123⟩, ⟨Try.func124, Try.call124⟩, trivial⟩

theorem mixed : Try.prog.follows .mixedOrders = true := by kernel_rfl

/-! ### The run -/
theorem runs : Go.Ax.isTrue ((Go.Ax.M (Go.Ax.envOf Try.prog (List.range 281) fns) (Go.Ax.drawA (Go.Ax.envOf Try.prog (List.range 281) fns)) Go.Ax.noSum 300).call 6 [] Go.Ax.st0) = true := by kernel_rfl

theorem walk (w : World) : Calls Try.prog 6 #[] w fun e w' => e = .returned (.bool true) ∧ Below w.heap.size w w' :=
  Go.Ax.closed_true fnsOk mixed runs w

/-! ### The row's step -/
set_option maxRecDepth 100000 in
theorem lifted (os : Os) (started : os.Started) (H : Type) (enc : TypeId × Value → H) :
    ReturnsInHanded {} Try.checked os 6 .any (Rows.linearNilSpec.pre6 enc Try.prog Try.f6 Rows.linearNilRow.domain false) (Rows.linearNilSpec.post enc Try.prog Try.f6 false true false false) := by
  refine returnsInHanded_of_change (C := Try.checked) own started (by kernel_rfl) Try.func6
    (ChangeSpec.witness6 (enc := enc) (C := Try.checked) false ⟨#[], #[], []⟩ 8 (by kernel_rfl) (by kernel_rfl) (by kernel_rfl) (by kernel_rfl)) ?_
  intro W base args ds gs before hval0 hW hcnd _
  have hval : ∀ (j : Nat) t v, Try.f6.params[j]? = some t → args[j]? = some v → Value.okWide Try.prog W .any base t v := hval0
  have hW' := hW
  obtain ⟨p, q, hA0, hV, rfl, hfz, hnd⟩ := hW
  have hA : DataW.TrodAll enc Try.prog W 0 (fun _ => true) true Try.f6.params.toList args.toList ds p := hA0
  rw [Try.params6] at hA hval
  obtain ⟨rfl, rfl, rfl⟩ := trodAll_none hA
  obtain ⟨rfl, rfl⟩ := trodVars_none hV
  clear hA0 hval0
  refine (walk W).mono fun e W' ⟨he, bel⟩ => ?_
  subst he
  exact ⟨_, rfl, _, _, _, [], _, [], hW', trodAll_mk1 (shut_bool Try.underlying4 _), trodAll_mk0, rfl, bel.frame _, fun h => by cases h⟩

theorem over : Rows.linearNilRow.holds Try.pinned (OpenSpec.ofChange Rows.linearNilSpec) :=
  OpenClaim.holds_of_wide 6 Try.f6 rfl rfl rfl rfl rfl rfl rfl ⟨rfl, rfl, rfl, rfl, rfl⟩ rfl rfl rfl rfl rfl (by kernel_rfl) Try.func6 (by kernel_rfl)
    (of_decide_eq_true (by kernel_rfl)) (by unfold Func.isWrapper; first | (rw [if_pos (by decide +kernel)]; kernel_rfl) | (rw [if_neg (by decide +kernel)]; exact ⟨rfl, rfl⟩))
    (fun os started H enc _ => lifted os started H enc)

/-- THE STATEMENT -/
theorem proved : Rows.LinearNilSaid := over
#print axioms proved
end Go.Proofs.Ytelehjeifhelnaa.linearNil
