/-
  PROVED HERE: 'Rows.MetaNilCardSaid': the call of the law's function, which takes nothing, returns true and writes nothing that was there; what the row lists is tied to the program's text by the given tie. No condition. THE WALK is an abstract run of the function's text, reckoned by the kernel in pieces (the texts WaA to WaF show that what such a run answers is what the program answers); hashes out of a table (each shown by a run of the hash), strings.Join by the library's contract.
-/
import Derived.Test.YtiafochainjglaaGreatDoorRows
import Derived.Test.YtiafochainjglaaGreatDoorCards
import Derived.Test.YtiafochainjglaaGreatDoorTie
import Derived.Test.YtiafochainjglaaGreatDoorWmA
import Derived.Test.YtiafochainjglaaGreatDoorShaE
import Derived.Test.YtiafochainjglaaGreatDoorWaF
import Derived.WalkKit
import Derived.ProofKit
import Derived.LaidMore
import Derived.OpenShut
import Derived.ShutString
import Derived.ChangeOld
import Derived.Below
import Derived.SevenTiedAt
import Derived.Stop.Joined
import Derived.Lay
import Derived.Test.YtiafochainjglaaGreatDoorMnA
import Derived.Test.YtiafochainjglaaGreatDoorMnK
import Derived.Test.YtiafochainjglaaGreatDoorMnQ
section
namespace Go.Proofs.YtiafochainjglaaGreatDoor.metaNil
open Go.ChangeShapes Go.WideShapes Go.ChangeAt Go.RowKit
set_option linter.unusedVariables false
theorem k9trip : Go.Ax.Trip Tryz.prog 0 none (.seq k9C0 (.seq k9C1 (.seq k9C2 (.seq k9C3 (.seq k9C4 (.seq k9C5 k9C6)))))) { m := .e, n := Tryz.f9.ntmps, defs := [] } Go.Ax.st0 fun r => (r.1 = .normal ∨ r.1 = .ret) ∧ Go.Ax.isTrue (Go.Ax.leaveA En Tryz.f9 r.2.1 r.2.2) = true :=
  Go.Ax.Trip.seqB EnOk smT_ok [] k9p1 <|
  Go.Ax.Trip.seqB EnOk smT_ok [0, 1, 2] k9p2 <|
  Go.Ax.Trip.seqB EnOk smT_ok [0, 1, 2] k9p3 <|
  Go.Ax.Trip.seqB EnOk smT_ok [709] k9p4 <|
  Go.Ax.Trip.seqB EnOk smT_ok [] k9p5 <|
  Go.Ax.Trip.seqB EnOk smT_ok [] k9p6 <|
  Go.Ax.Trip.lastB EnOk smT_ok k9pE
theorem memo9 : Go.Ax.MemoOK Tryz.prog ⟨9, [], .bool true⟩ := Go.Ax.trip_memo EnOk (by kernel_rfl) k9shape Tryz.call9 k9trip
theorem sm9_ok : Go.Ax.CallsOK Tryz.prog sm9 := Go.Ax.orC_ok (Go.Ax.sumC_ok (l := [⟨9, [], .bool true⟩]) ⟨memo9, trivial⟩) smT_ok
theorem trip : Go.Ax.Trip Tryz.prog 0 none (.seq C0 (.seq C1 (.seq C2 (.seq C3 (.seq C4 (.seq C5 (.seq C6 (.seq C7 (.seq C8 (.seq C9 (.seq C10 (.seq C11 (.seq C12 (.seq C13 (.seq C14 (.seq C15 (.seq C16 (.seq C17 (.seq C18 C19))))))))))))))))))) { m := .e, n := Tryz.f4.ntmps, defs := [] } Go.Ax.st0 fun r => (r.1 = .normal ∨ r.1 = .ret) ∧ Go.Ax.isTrue (Go.Ax.leaveA En Tryz.f4 r.2.1 r.2.2) = true :=
  Go.Ax.Trip.seqB EnOk sm9_ok [] p1 <|
  Go.Ax.Trip.seqB EnOk sm9_ok [] p2 <|
  Go.Ax.Trip.seqB EnOk sm9_ok [0, 1, 2] p3 <|
  Go.Ax.Trip.seqB EnOk sm9_ok [0, 1, 2] p4 <|
  Go.Ax.Trip.seqB EnOk sm9_ok [0, 1, 2, 3, 4, 5] p5 <|
  Go.Ax.Trip.seqB EnOk sm9_ok [0, 1, 2, 3, 4, 5] p6 <|
  Go.Ax.Trip.seqB EnOk sm9_ok [0, 1, 2, 3, 4, 5, 712] p7 <|
  Go.Ax.Trip.seqB EnOk sm9_ok [0, 1, 2, 3, 4, 5, 6] p8 <|
  Go.Ax.Trip.seqB EnOk sm9_ok [0, 1, 2, 3, 4, 5, 6] p9 <|
  Go.Ax.Trip.seqB EnOk sm9_ok [0, 1, 2, 3, 4, 5, 6] p10 <|
  Go.Ax.Trip.seqB EnOk sm9_ok [0, 1, 2, 3, 4, 5, 6] p11 <|
  Go.Ax.Trip.seqB EnOk sm9_ok [0, 1, 2, 3, 4, 5, 6] p12 <|
  Go.Ax.Trip.seqB EnOk sm9_ok [0, 1, 2, 3, 4, 5, 6] p13 <|
  Go.Ax.Trip.seqB EnOk sm9_ok [0, 1, 2, 3, 4, 5, 6] p14 <|
  Go.Ax.Trip.seqB EnOk sm9_ok [0, 1, 2, 6] p15 <|
  Go.Ax.Trip.seqB EnOk sm9_ok [0, 1, 2, 3] p16 <|
  Go.Ax.Trip.seqB EnOk sm9_ok [0, 1, 2, 3] p17 <|
  Go.Ax.Trip.seqB EnOk sm9_ok [] p18 <|
  Go.Ax.Trip.seqB EnOk sm9_ok [] p19 <|
  Go.Ax.Trip.lastB EnOk sm9_ok pE
theorem walk (w : World) (hgl : Go.Ax.GlobOK w) : Calls Tryz.prog 4 #[] w fun e w' => e = .returned (.bool true) ∧ Below w.heap.size w w' :=
  Go.Ax.trip_true EnOk (by kernel_rfl) shape trip w hgl
def laidAll : List (String × DataW Unit) := [("math/bits.deBruijn32tab", Rows.laid_math_bits_deBruijn32tab), ("math/bits.deBruijn64tab", Rows.laid_math_bits_deBruijn64tab), ("internal/strconv.uint64pow10", Rows.laid_internal_strconv_uint64pow10), ("unicode/utf8.acceptRanges", Rows.laid_unicode_utf8_acceptRanges), ("strconv.ErrRange", Rows.laid_strconv_ErrRange), ("strconv.ErrSyntax", Rows.laid_strconv_ErrSyntax), ("gemel/meta.words", Rows.laid_gemel_meta_words), ("unicode/utf8.first", Rows.laid_unicode_utf8_first)]
theorem door_met (os : Os) : laidMetH Tryz.prog laidAll ((World.laidAll Tryz.prog os laidAll).forCall (fun _ _ => 0) ⟨#[], #[], []⟩).memory := by
  rw [MakeChecks.laidMetH_plain _ _ _ (by kernel_rfl)]
  exact laidMet_laidAll _ (by kernel_rfl) (by kernel_rfl)
set_option maxRecDepth 100000 in
theorem lifted (os : Os) (started : os.Started) (H : Type) (enc : TypeId × Value → H) :
    ReturnsInHanded {} Tryz.checked os 4 .any (fun w args => (Rows.metaNilSpec.pre enc Tryz.prog Tryz.f4 [] false w args ∧ laidMetH Tryz.prog laidAll w) ∧ sizedMet enc Tryz.prog Tryz.f4 (OpenSpec.ofChange Rows.metaNilSpec) false w args)
      (Rows.metaNilSpec.post enc Tryz.prog Tryz.f4 false true false false) := by
  refine returnsInHanded_of_change_and (C := Tryz.checked) (X := fun w _ => laidMetH Tryz.prog laidAll w) (fun _ _ _ hh h => h.of_heap hh) own started (by kernel_rfl) Tryz.func4
    (ChangeSpec.witness_shaped (enc := enc) (C := Tryz.checked) (os := os) (X := fun w _ => laidMetH Tryz.prog laidAll w) false (World.laidAll Tryz.prog os laidAll) #[] 8 (World.laidAll_os _ _ _) (World.shaped_of_ZipB (by kernel_rfl) (by kernel_rfl)) (by kernel_rfl) (by kernel_rfl) (by kernel_rfl) (door_met os)) ?_
  intro W base args ds gs before hval0 hW _ _ hL _
  have hval : ∀ (j : Nat) t v, Tryz.f4.params[j]? = some t → args[j]? = some v → Value.okWide Tryz.prog W .any base t v := hval0
  have hW' := hW
  obtain ⟨p, q, hA0, hV, rfl, hfz, hnd⟩ := hW
  have hA : DataW.TrodAll enc Tryz.prog W 0 (fun _ => true) true Tryz.f4.params.toList args.toList ds p := hA0
  rw [Tryz.params4] at hA hval
  obtain ⟨rfl, rfl, rfl⟩ := trodAll_none hA
  obtain ⟨rfl, rfl⟩ := trodVars_none hV
  clear hA0 hval0
  refine (walk W (globPart.globOK hL)).mono fun e W' ⟨he, bel⟩ => ?_
  subst he
  exact ⟨_, rfl, _, _, _, [], _, [], hW', trodAll_mk1 (shut_bool Tryz.underlying4 _), trodAll_mk0, rfl, bel.frame _, fun h => by cases h⟩
theorem over : Rows.metaNilRow.holds Tryz.pinned (OpenSpec.ofChange Rows.metaNilSpec) :=
  OpenClaim.holds_of_wide 4 Tryz.f4 rfl rfl rfl rfl rfl rfl rfl ⟨rfl, rfl, rfl, rfl, rfl⟩ rfl rfl rfl rfl rfl (by kernel_rfl) Tryz.func4 (by kernel_rfl)
    (of_decide_eq_true (by kernel_rfl)) (by unfold Func.isWrapper; first | (rw [if_pos (by decide +kernel)]; kernel_rfl) | (rw [if_neg (by decide +kernel)]; exact ⟨rfl, rfl⟩))
    (fun os started H enc _ => lifted os started H enc)
theorem proved : Rows.MetaNilCardSaid :=
  Claim7.holds_tied_plain_at .later [] [.data, .data, .data, .data, .sentinel, .sentinel, .data, .pinned] true (true, "5cb5d186f9a595697ffe3857efde8c74350049c5a8ee1f3809f9d2b7d4aab2c2") true
    over (fun _ h => by cases h) (by kernel_rfl) (fun _ h => by cases h) metaNil_row_tie rfl ⟨rfl, rfl⟩ (by kernel_rfl) rfl
    (fun f fn hf hfn => by
      obtain rfl : f = 4 := Option.some.inj ((show Tryz.prog.funcNamed "gemel/gemellaw29.MetaNil" = some 4 by kernel_rfl).symm.trans hf) |>.symm
      obtain rfl : fn = Tryz.f4 := (Option.some.inj (Tryz.func4.symm.trans hfn)).symm
      exact ⟨by kernel_rfl, fun j t ht => by
        rw [Tryz.params4] at ht
        simp at ht⟩)
    (by kernel_rfl)
#print axioms proved
end Go.Proofs.YtiafochainjglaaGreatDoor.metaNil
end
