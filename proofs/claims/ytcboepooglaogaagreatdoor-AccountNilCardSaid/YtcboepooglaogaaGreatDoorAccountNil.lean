/-
  PROVED HERE: 'Rows.AccountNilCardSaid': the call of the law's function, which takes nothing, returns true and writes nothing that was there; what the row lists is tied to the program's text by the given tie. No condition.
  THE WALK is an abstract run of the function's text, reckoned by the kernel ('closed_true': the texts YtcboepooglaogaaGreatDoorAxA to YtcboepooglaogaaGreatDoorAxU show that what such a run answers is what the program answers).
-/
import Derived.Test.YtcboepooglaogaaGreatDoorRows
import Derived.Test.YtcboepooglaogaaGreatDoorCards
import Derived.Test.YtcboepooglaogaaGreatDoorTie
import Derived.Test.YtcboepooglaogaaGreatDoorAxU
import Derived.WalkKit
import Derived.ProofKit
import Derived.LaidMore
import Derived.OpenShut
import Derived.ShutString
import Derived.ChangeOld
import Derived.Below
import Derived.SevenTiedAt
import Derived.Stop.Joined
namespace Go.Proofs.YtcboepooglaogaaGreatDoor.accountNil
open Go.ChangeShapes Go.WideShapes Go.ChangeAt Go.RowKit
set_option linter.unusedVariables false

theorem own : ownKnob Tryz.prog.godebug = none := by kernel_rfl

/-! ### The tables of the functions and types that the run comes by -/
noncomputable def fns : List (Nat × Func) := [(8, Tryz.f8), (36, Tryz.f36), (37, Tryz.f37), (38, Tryz.f38), (39, Tryz.f39), (40, Tryz.f40), (41, Tryz.f41), (42, Tryz.f42), (43, Tryz.f43), (84, Tryz.f84), (85, Tryz.f85), (86, Tryz.f86), (87, Tryz.f87), (88, Tryz.f88), (89, Tryz.f89), (90, Tryz.f90), (91, Tryz.f91), (92, Tryz.f92), (93, Tryz.f93), (94, Tryz.f94), (95, Tryz.f95), (96, Tryz.f96), (97, Tryz.f97), (98, Tryz.f98), (99, Tryz.f99), (100, Tryz.f100), (101, Tryz.f101), (141, Tryz.f141), (142, Tryz.f142), (143, Tryz.f143), (144, Tryz.f144), (145, Tryz.f145), (146, Tryz.f146), (147, Tryz.f147), (148, Tryz.f148), (149, Tryz.f149), (150, Tryz.f150), (151, Tryz.f151), (152, Tryz.f152), (153, Tryz.f153), (154, Tryz.f154), (155, Tryz.f155), (156, Tryz.f156), (157, Tryz.f157), (158, Tryz.f158), (159, Tryz.f159), (160, Tryz.f160), (171, Tryz.f171), (172, Tryz.f172), (173, Tryz.f173), (174, Tryz.f174), (175, Tryz.f175), (176, Tryz.f176), (177, Tryz.f177), (178, Tryz.f178), (179, Tryz.f179), (180, Tryz.f180), (181, Tryz.f181), (182, Tryz.f182), (183, Tryz.f183), (184, Tryz.f184), (185, Tryz.f185), (186, Tryz.f186), (187, Tryz.f187), (188, Tryz.f188), (189, Tryz.f189), (190, Tryz.f190), (191, Tryz.f191), (192, Tryz.f192), (202, Tryz.f202), (203, Tryz.f203), (204, Tryz.f204), (205, Tryz.f205), (206, Tryz.f206), (207, Tryz.f207), (208, Tryz.f208), (209, Tryz.f209), (210, Tryz.f210), (211, Tryz.f211), (212, Tryz.f212), (213, Tryz.f213), (214, Tryz.f214), (215, Tryz.f215), (216, Tryz.f216), (217, Tryz.f217), (218, Tryz.f218), (219, Tryz.f219), (220, Tryz.f220), (221, Tryz.f221), (226, Tryz.f226), (227, Tryz.f227), (228, Tryz.f228), (229, Tryz.f229), (230, Tryz.f230), (231, Tryz.f231), (232, Tryz.f232), (233, Tryz.f233), (234, Tryz.f234)]

theorem fnsOk : Go.Ax.AllFn Tryz.prog fns :=
  ⟨⟨Tryz.func8, Tryz.call8⟩, ⟨Tryz.func36, Tryz.call36⟩, ⟨Tryz.func37, Tryz.call37⟩, ⟨Tryz.func38, Tryz.call38⟩, ⟨Tryz.func39, Tryz.call39⟩, ⟨Tryz.func40, Tryz.call40⟩, ⟨Tryz.func41, Tryz.call41⟩, ⟨Tryz.func42, Tryz.call42⟩, ⟨Tryz.func43, Tryz.call43⟩, ⟨Tryz.func84, Tryz.call84⟩, ⟨Tryz.func85, Tryz.call85⟩, ⟨Tryz.func86, Tryz.call86⟩, ⟨Tryz.func87, Tryz.call87⟩, ⟨Tryz.func88, Tryz.call88⟩, ⟨Tryz.func89, Tryz.call89⟩, ⟨Tryz.func90, Tryz.call90⟩, ⟨Tryz.func91, Tryz.call91⟩, ⟨Tryz.func92, Tryz.call92⟩, ⟨Tryz.func93, Tryz.call93⟩, ⟨Tryz.func94, Tryz.call94⟩, ⟨Tryz.func95, Tryz.call95⟩, ⟨Tryz.func96, Tryz.call96⟩, ⟨Tryz.func97, Tryz.call97⟩, ⟨Tryz.func98, Tryz.call98⟩, ⟨Tryz.func99, Tryz.call99⟩, ⟨Tryz.func100, Tryz.call100⟩, ⟨Tryz.func101, Tryz.call101⟩, ⟨Tryz.func141, Tryz.call141⟩, ⟨Tryz.func142, Tryz.call142⟩, ⟨Tryz.func143, Tryz.call143⟩, ⟨Tryz.func144, Tryz.call144⟩, ⟨Tryz.func145, Tryz.call145⟩, ⟨Tryz.func146, Tryz.call146⟩, ⟨Tryz.func147, Tryz.call147⟩, ⟨Tryz.func148, Tryz.call148⟩, ⟨Tryz.func149, Tryz.call149⟩, ⟨Tryz.func150, Tryz.call150⟩, ⟨Tryz.func151, Tryz.call151⟩, ⟨Tryz.func152, Tryz.call152⟩, ⟨Tryz.func153, Tryz.call153⟩, ⟨Tryz.func154, Tryz.call154⟩, ⟨Tryz.func155, Tryz.call155⟩, ⟨Tryz.func156, Tryz.call156⟩, ⟨Tryz.func157, Tryz.call157⟩, ⟨Tryz.func158, Tryz.call158⟩, ⟨Tryz.func159, Tryz.call159⟩, ⟨Tryz.func160, Tryz.call160⟩, ⟨Tryz.func171, Tryz.call171⟩, ⟨Tryz.func172, Tryz.call172⟩, ⟨Tryz.func173, Tryz.call173⟩, ⟨Tryz.func174, Tryz.call174⟩, ⟨Tryz.func175, Tryz.call175⟩, ⟨Tryz.func176, Tryz.call176⟩, ⟨Tryz.func177, Tryz.call177⟩, ⟨Tryz.func178, Tryz.call178⟩, ⟨Tryz.func179, Tryz.call179⟩, ⟨Tryz.func180, Tryz.call180⟩, ⟨Tryz.func181, Tryz.call181⟩, ⟨Tryz.func182, Tryz.call182⟩, ⟨Tryz.func183, Tryz.call183⟩, ⟨Tryz.func184, Tryz.call184⟩, ⟨Tryz.func185, Tryz.call185⟩, ⟨Tryz.func186, Tryz.call186⟩, ⟨Tryz.func187, Tryz.call187⟩, ⟨Tryz.func188, Tryz.call188⟩, ⟨Tryz.func189, Tryz.call189⟩, ⟨Tryz.func190, Tryz.call190⟩, ⟨Tryz.func191, Tryz.call191⟩, ⟨Tryz.func192, Tryz.call192⟩, ⟨Tryz.func202, Tryz.call202⟩, ⟨Tryz.func203, Tryz.call203⟩, ⟨Tryz.func204, Tryz.call204⟩, ⟨Tryz.func205, Tryz.call205⟩, ⟨Tryz.func206, Tryz.call206⟩, ⟨Tryz.func207, Tryz.call207⟩, ⟨Tryz.func208, Tryz.call208⟩, ⟨Tryz.func209, Tryz.call209⟩, ⟨Tryz.func210, Tryz.call210⟩, ⟨Tryz.func211, Tryz.call211⟩, ⟨Tryz.func212, Tryz.call212⟩, ⟨Tryz.func213, Tryz.call213⟩, ⟨Tryz.func214, Tryz.call214⟩, ⟨Tryz.func215, Tryz.call215⟩, ⟨Tryz.func216, Tryz.call216⟩, ⟨Tryz.func217, Tryz.call217⟩, ⟨Tryz.func218, Tryz.call218⟩, ⟨Tryz.func219, Tryz.call219⟩, ⟨Tryz.func220, Tryz.call220⟩, ⟨Tryz.func221, Tryz.call221⟩, ⟨Tryz.func226, Tryz.call226⟩, ⟨Tryz.func227, Tryz.call227⟩, ⟨Tryz.func228, Tryz.call228⟩, ⟨Tryz.func229, Tryz.call229⟩, ⟨Tryz.func230, Tryz.call230⟩, ⟨Tryz.func231, Tryz.call231⟩, ⟨Tryz.func232, Tryz.call232⟩, ⟨Tryz.func233, Tryz.call233⟩, ⟨Tryz.func234, Tryz.call234⟩, trivial⟩

theorem mixed : Tryz.prog.follows .mixedOrders = true := by kernel_rfl

/-! ### The run -/
theorem runs : Go.Ax.isTrue ((Go.Ax.M (Go.Ax.envOf Tryz.prog (List.range 399) fns) (Go.Ax.drawA (Go.Ax.envOf Tryz.prog (List.range 399) fns)) Go.Ax.noSum 300).call 8 [] Go.Ax.st0) = true := by kernel_rfl

theorem walk (w : World) : Calls Tryz.prog 8 #[] w fun e w' => e = .returned (.bool true) ∧ Below w.heap.size w w' :=
  Go.Ax.closed_true fnsOk mixed runs w

/-! ### The row's step -/
def laidAll : List (String × DataW Unit) := [("math/bits.deBruijn32tab", Rows.laid_math_bits_deBruijn32tab), ("math/bits.deBruijn64tab", Rows.laid_math_bits_deBruijn64tab), ("internal/strconv.uint64pow10", Rows.laid_internal_strconv_uint64pow10)]

theorem door_met (os : Os) (args : Array Value) : laidMetH Tryz.prog laidAll ((World.doorLaid Tryz.prog 400 os).forCall (fun _ _ => 0) ⟨#[], args, []⟩).memory :=
  laidMetH_of_parts3 (fuel := 8) (laidMet_of_run' 8 (by kernel_rfl) (by kernel_rfl)) (by kernel_rfl) (by kernel_rfl)

set_option maxRecDepth 100000 in
theorem lifted (os : Os) (started : os.Started) (H : Type) (enc : TypeId × Value → H) :
    ReturnsInHanded {} Tryz.checked os 8 .any (fun w args => (Rows.accountNilSpec.pre enc Tryz.prog Tryz.f8 [] false w args ∧ laidMetH Tryz.prog laidAll w) ∧ sizedMet enc Tryz.prog Tryz.f8 (OpenSpec.ofChange Rows.accountNilSpec) false w args)
      (Rows.accountNilSpec.post enc Tryz.prog Tryz.f8 false true false false) := by
  refine returnsInHanded_of_change_and (C := Tryz.checked) (X := fun w _ => laidMetH Tryz.prog laidAll w) (fun _ _ _ hh h => h.of_heap hh) own started (by kernel_rfl) Tryz.func8
    (ChangeSpec.witness_shaped (enc := enc) (C := Tryz.checked) (os := os) (X := fun w _ => laidMetH Tryz.prog laidAll w) false (World.doorLaid Tryz.prog 400 os) #[] 8 rfl (World.shaped_of_RefB (by kernel_rfl) (by kernel_rfl)) (by kernel_rfl) (by kernel_rfl) (by kernel_rfl) (door_met os _)) ?_
  intro W base args ds gs before hval0 hW _ _ hL _
  have hval : ∀ (j : Nat) t v, Tryz.f8.params[j]? = some t → args[j]? = some v → Value.okWide Tryz.prog W .any base t v := hval0
  have hW' := hW
  obtain ⟨p, q, hA0, hV, rfl, hfz, hnd⟩ := hW
  have hA : DataW.TrodAll enc Tryz.prog W 0 (fun _ => true) true Tryz.f8.params.toList args.toList ds p := hA0
  rw [Tryz.params8] at hA hval
  obtain ⟨rfl, rfl, rfl⟩ := trodAll_none hA
  obtain ⟨rfl, rfl⟩ := trodVars_none hV
  clear hA0 hval0
  refine (walk W).mono fun e W' ⟨he, bel⟩ => ?_
  subst he
  exact ⟨_, rfl, _, _, _, [], _, [], hW', trodAll_mk1 (shut_bool Tryz.underlying4 _), trodAll_mk0, rfl, bel.frame _, fun h => by cases h⟩

theorem over : Rows.accountNilRow.holds Tryz.pinned (OpenSpec.ofChange Rows.accountNilSpec) :=
  OpenClaim.holds_of_wide 8 Tryz.f8 rfl rfl rfl rfl rfl rfl rfl ⟨rfl, rfl, rfl, rfl, rfl⟩ rfl rfl rfl rfl rfl (by kernel_rfl) Tryz.func8 (by kernel_rfl)
    (of_decide_eq_true (by kernel_rfl)) (by unfold Func.isWrapper; first | (rw [if_pos (by decide +kernel)]; kernel_rfl) | (rw [if_neg (by decide +kernel)]; exact ⟨rfl, rfl⟩))
    (fun os started H enc _ => lifted os started H enc)

/-- THE STATEMENT -/
theorem proved : Rows.AccountNilCardSaid :=
  Claim7.holds_tied_plain_at .later [] [.data, .data, .data] true (true, "1744fa35d596e300cad6bd3b1f12cab5886ca8eb22f64e2d26da82f587e521ab") false
    over (fun _ h => by cases h) (by kernel_rfl) (fun _ h => by cases h) accountNil_row_tie rfl ⟨rfl, rfl⟩ (by kernel_rfl) rfl
    (fun f fn hf hfn => by
      obtain rfl : f = 8 := Option.some.inj ((show Tryz.prog.funcNamed "gemel/gemellaw27.AccountNil" = some 8 by kernel_rfl).symm.trans hf) |>.symm
      obtain rfl : fn = Tryz.f8 := (Option.some.inj (Tryz.func8.symm.trans hfn)).symm
      exact ⟨by kernel_rfl, fun j t ht => by
        rw [Tryz.params8] at ht
        simp at ht⟩)
    (by kernel_rfl)
#print axioms proved
end Go.Proofs.YtcboepooglaogaaGreatDoor.accountNil
