/-
  PROVED HERE: 'Rows.ShaConstantsSaid': for every number the call of the law's function returns true and writes nothing that was there. No condition.
  THE WALK is an abstract run of the function's text, reckoned by the kernel: for numbers below 0, for numbers from 64 on, and for each of the 64 between (the texts YtgijfohgffhllaaAxA to YtgijfohgffhllaaAxAr show that what such a run answers is what the program answers).
-/
import Derived.Test.YtgijfohgffhllaaRows
import Derived.Test.YtgijfohgffhllaaShaE
import Derived.Test.YtgijfohgffhllaaAxAr
import Derived.WalkKit
import Derived.ProofKit
import Derived.OpenShut
import Derived.ShutString
import Derived.ChangeOld
import Derived.Below
namespace Go.Proofs.Ytgijfohgffhllaa.shaConstants
open Go.ChangeShapes Go.WideShapes Go.ChangeAt Go.RowKit Go.Ax
set_option linter.unusedVariables false

theorem own : ownKnob Try.prog.godebug = none := by kernel_rfl

/-! ### The tables of the functions and types that the run comes by -/
noncomputable def fns : List (Nat × Func) := [(4, Try.f4), (7, Try.f7), (9, Try.f9), (10, Try.f10), (11, Try.f11)]

theorem fnsOk : AllFn Try.prog fns :=
  ⟨⟨Try.func4, Try.call4⟩, ⟨Try.func7, Try.call7⟩, ⟨Try.func9, Try.call9⟩, ⟨Try.func10, Try.call10⟩, ⟨Try.func11, Try.call11⟩, trivial⟩

noncomputable def E : Env := envEx Try.prog (List.range 65) fns []
theorem Eok : Env.Ok Try.prog E := envEx_ok (xs := []) fnsOk trivial shaPart.mixed

noncomputable def primesV : AV := .agg [.int .u64 (.ofNat 2), .int .u64 (.ofNat 3), .int .u64 (.ofNat 5), .int .u64 (.ofNat 7), .int .u64 (.ofNat 11), .int .u64 (.ofNat 13), .int .u64 (.ofNat 17), .int .u64 (.ofNat 19), .int .u64 (.ofNat 23), .int .u64 (.ofNat 29), .int .u64 (.ofNat 31), .int .u64 (.ofNat 37), .int .u64 (.ofNat 41), .int .u64 (.ofNat 43), .int .u64 (.ofNat 47), .int .u64 (.ofNat 53), .int .u64 (.ofNat 59), .int .u64 (.ofNat 61), .int .u64 (.ofNat 67), .int .u64 (.ofNat 71), .int .u64 (.ofNat 73), .int .u64 (.ofNat 79), .int .u64 (.ofNat 83), .int .u64 (.ofNat 89), .int .u64 (.ofNat 97), .int .u64 (.ofNat 101), .int .u64 (.ofNat 103), .int .u64 (.ofNat 107), .int .u64 (.ofNat 109), .int .u64 (.ofNat 113), .int .u64 (.ofNat 127), .int .u64 (.ofNat 131), .int .u64 (.ofNat 137), .int .u64 (.ofNat 139), .int .u64 (.ofNat 149), .int .u64 (.ofNat 151), .int .u64 (.ofNat 157), .int .u64 (.ofNat 163), .int .u64 (.ofNat 167), .int .u64 (.ofNat 173), .int .u64 (.ofNat 179), .int .u64 (.ofNat 181), .int .u64 (.ofNat 191), .int .u64 (.ofNat 193), .int .u64 (.ofNat 197), .int .u64 (.ofNat 199), .int .u64 (.ofNat 211), .int .u64 (.ofNat 223), .int .u64 (.ofNat 227), .int .u64 (.ofNat 229), .int .u64 (.ofNat 233), .int .u64 (.ofNat 239), .int .u64 (.ofNat 241), .int .u64 (.ofNat 251), .int .u64 (.ofNat 257), .int .u64 (.ofNat 263), .int .u64 (.ofNat 269), .int .u64 (.ofNat 271), .int .u64 (.ofNat 277), .int .u64 (.ofNat 281), .int .u64 (.ofNat 283), .int .u64 (.ofNat 293), .int .u64 (.ofNat 307), .int .u64 (.ofNat 311)]
noncomputable def sm0 : CallT := orC (sumC (⟨18, [], primesV⟩ :: shaPart.cubes)) shaPart.shaSum
theorem sm0_ok : CallsOK Try.prog sm0 := orC_ok (sumC_ok (l := ⟨18, [], primesV⟩ :: shaPart.cubes) ⟨shaPart.primes_, shaPart.cubesOk⟩) shaPart.shaSum_ok

theorem known : MemoOK Try.prog ⟨9, [], .bool true⟩ := memo_ok (n := 60) Eok sm0_ok Try.call9 (by kernel_rfl) (by kernel_rfl)

noncomputable def sm : CallT := orC (sumC [⟨9, [], .bool true⟩]) sm0
theorem sm_ok : CallsOK Try.prog sm := orC_ok (sumC_ok (l := [⟨9, [], .bool true⟩]) ⟨known, trivial⟩) sm0_ok

/-! ### The runs -/
noncomputable def go (i : Int) : Option (AV × ASt) := (M E (drawA E) sm 60).call 4 [.int .i64 i] st0

theorem below (n : Nat) : isTrue (go (.negSucc n)) = true := by kernel_rfl
theorem above (n : Nat) : isTrue (go (.ofNat (n + 64))) = true := by kernel_rfl
theorem r0 : isTrue (go (.ofNat 0)) = true := by kernel_rfl
theorem r1 : isTrue (go (.ofNat 1)) = true := by kernel_rfl
theorem r2 : isTrue (go (.ofNat 2)) = true := by kernel_rfl
theorem r3 : isTrue (go (.ofNat 3)) = true := by kernel_rfl
theorem r4 : isTrue (go (.ofNat 4)) = true := by kernel_rfl
theorem r5 : isTrue (go (.ofNat 5)) = true := by kernel_rfl
theorem r6 : isTrue (go (.ofNat 6)) = true := by kernel_rfl
theorem r7 : isTrue (go (.ofNat 7)) = true := by kernel_rfl
theorem r8 : isTrue (go (.ofNat 8)) = true := by kernel_rfl
theorem r9 : isTrue (go (.ofNat 9)) = true := by kernel_rfl
theorem r10 : isTrue (go (.ofNat 10)) = true := by kernel_rfl
theorem r11 : isTrue (go (.ofNat 11)) = true := by kernel_rfl
theorem r12 : isTrue (go (.ofNat 12)) = true := by kernel_rfl
theorem r13 : isTrue (go (.ofNat 13)) = true := by kernel_rfl
theorem r14 : isTrue (go (.ofNat 14)) = true := by kernel_rfl
theorem r15 : isTrue (go (.ofNat 15)) = true := by kernel_rfl
theorem r16 : isTrue (go (.ofNat 16)) = true := by kernel_rfl
theorem r17 : isTrue (go (.ofNat 17)) = true := by kernel_rfl
theorem r18 : isTrue (go (.ofNat 18)) = true := by kernel_rfl
theorem r19 : isTrue (go (.ofNat 19)) = true := by kernel_rfl
theorem r20 : isTrue (go (.ofNat 20)) = true := by kernel_rfl
theorem r21 : isTrue (go (.ofNat 21)) = true := by kernel_rfl
theorem r22 : isTrue (go (.ofNat 22)) = true := by kernel_rfl
theorem r23 : isTrue (go (.ofNat 23)) = true := by kernel_rfl
theorem r24 : isTrue (go (.ofNat 24)) = true := by kernel_rfl
theorem r25 : isTrue (go (.ofNat 25)) = true := by kernel_rfl
theorem r26 : isTrue (go (.ofNat 26)) = true := by kernel_rfl
theorem r27 : isTrue (go (.ofNat 27)) = true := by kernel_rfl
theorem r28 : isTrue (go (.ofNat 28)) = true := by kernel_rfl
theorem r29 : isTrue (go (.ofNat 29)) = true := by kernel_rfl
theorem r30 : isTrue (go (.ofNat 30)) = true := by kernel_rfl
theorem r31 : isTrue (go (.ofNat 31)) = true := by kernel_rfl
theorem r32 : isTrue (go (.ofNat 32)) = true := by kernel_rfl
theorem r33 : isTrue (go (.ofNat 33)) = true := by kernel_rfl
theorem r34 : isTrue (go (.ofNat 34)) = true := by kernel_rfl
theorem r35 : isTrue (go (.ofNat 35)) = true := by kernel_rfl
theorem r36 : isTrue (go (.ofNat 36)) = true := by kernel_rfl
theorem r37 : isTrue (go (.ofNat 37)) = true := by kernel_rfl
theorem r38 : isTrue (go (.ofNat 38)) = true := by kernel_rfl
theorem r39 : isTrue (go (.ofNat 39)) = true := by kernel_rfl
theorem r40 : isTrue (go (.ofNat 40)) = true := by kernel_rfl
theorem r41 : isTrue (go (.ofNat 41)) = true := by kernel_rfl
theorem r42 : isTrue (go (.ofNat 42)) = true := by kernel_rfl
theorem r43 : isTrue (go (.ofNat 43)) = true := by kernel_rfl
theorem r44 : isTrue (go (.ofNat 44)) = true := by kernel_rfl
theorem r45 : isTrue (go (.ofNat 45)) = true := by kernel_rfl
theorem r46 : isTrue (go (.ofNat 46)) = true := by kernel_rfl
theorem r47 : isTrue (go (.ofNat 47)) = true := by kernel_rfl
theorem r48 : isTrue (go (.ofNat 48)) = true := by kernel_rfl
theorem r49 : isTrue (go (.ofNat 49)) = true := by kernel_rfl
theorem r50 : isTrue (go (.ofNat 50)) = true := by kernel_rfl
theorem r51 : isTrue (go (.ofNat 51)) = true := by kernel_rfl
theorem r52 : isTrue (go (.ofNat 52)) = true := by kernel_rfl
theorem r53 : isTrue (go (.ofNat 53)) = true := by kernel_rfl
theorem r54 : isTrue (go (.ofNat 54)) = true := by kernel_rfl
theorem r55 : isTrue (go (.ofNat 55)) = true := by kernel_rfl
theorem r56 : isTrue (go (.ofNat 56)) = true := by kernel_rfl
theorem r57 : isTrue (go (.ofNat 57)) = true := by kernel_rfl
theorem r58 : isTrue (go (.ofNat 58)) = true := by kernel_rfl
theorem r59 : isTrue (go (.ofNat 59)) = true := by kernel_rfl
theorem r60 : isTrue (go (.ofNat 60)) = true := by kernel_rfl
theorem r61 : isTrue (go (.ofNat 61)) = true := by kernel_rfl
theorem r62 : isTrue (go (.ofNat 62)) = true := by kernel_rfl
theorem r63 : isTrue (go (.ofNat 63)) = true := by kernel_rfl

theorem all : ∀ i : Int, isTrue (go i) = true
  | .negSucc n => below n
  | .ofNat 0 => r0
  | .ofNat 1 => r1
  | .ofNat 2 => r2
  | .ofNat 3 => r3
  | .ofNat 4 => r4
  | .ofNat 5 => r5
  | .ofNat 6 => r6
  | .ofNat 7 => r7
  | .ofNat 8 => r8
  | .ofNat 9 => r9
  | .ofNat 10 => r10
  | .ofNat 11 => r11
  | .ofNat 12 => r12
  | .ofNat 13 => r13
  | .ofNat 14 => r14
  | .ofNat 15 => r15
  | .ofNat 16 => r16
  | .ofNat 17 => r17
  | .ofNat 18 => r18
  | .ofNat 19 => r19
  | .ofNat 20 => r20
  | .ofNat 21 => r21
  | .ofNat 22 => r22
  | .ofNat 23 => r23
  | .ofNat 24 => r24
  | .ofNat 25 => r25
  | .ofNat 26 => r26
  | .ofNat 27 => r27
  | .ofNat 28 => r28
  | .ofNat 29 => r29
  | .ofNat 30 => r30
  | .ofNat 31 => r31
  | .ofNat 32 => r32
  | .ofNat 33 => r33
  | .ofNat 34 => r34
  | .ofNat 35 => r35
  | .ofNat 36 => r36
  | .ofNat 37 => r37
  | .ofNat 38 => r38
  | .ofNat 39 => r39
  | .ofNat 40 => r40
  | .ofNat 41 => r41
  | .ofNat 42 => r42
  | .ofNat 43 => r43
  | .ofNat 44 => r44
  | .ofNat 45 => r45
  | .ofNat 46 => r46
  | .ofNat 47 => r47
  | .ofNat 48 => r48
  | .ofNat 49 => r49
  | .ofNat 50 => r50
  | .ofNat 51 => r51
  | .ofNat 52 => r52
  | .ofNat 53 => r53
  | .ofNat 54 => r54
  | .ofNat 55 => r55
  | .ofNat 56 => r56
  | .ofNat 57 => r57
  | .ofNat 58 => r58
  | .ofNat 59 => r59
  | .ofNat 60 => r60
  | .ofNat 61 => r61
  | .ofNat 62 => r62
  | .ofNat 63 => r63
  | .ofNat (n + 64) => above n

theorem walk (a0 : Int) (w : World) : Calls Try.prog 4 #[.int .i64 a0] w fun e w' => e = .returned (.bool true) ∧ Below w.heap.size w w' :=
  run_args Eok sm_ok VRs_int1 (all a0) w

/-! ### The row's step -/
set_option maxRecDepth 100000 in
theorem lifted (os : Os) (started : os.Started) (H : Type) (enc : TypeId × Value → H) :
    ReturnsInHanded {} Try.checked os 4 .any (Rows.shaConstantsSpec.pre6 enc Try.prog Try.f4 Rows.shaConstantsRow.domain false) (Rows.shaConstantsSpec.post enc Try.prog Try.f4 false true false false) := by
  refine returnsInHanded_of_change (C := Try.checked) own started (by kernel_rfl) Try.func4
    (ChangeSpec.witness6 (enc := enc) (C := Try.checked) false ⟨#[], #[.int .i64 0], []⟩ 8 (by kernel_rfl) (by kernel_rfl) (by kernel_rfl) (by kernel_rfl)) ?_
  intro W base args ds gs before hval0 hW hcnd _
  have hval : ∀ (j : Nat) t v, Try.f4.params[j]? = some t → args[j]? = some v → Value.okWide Try.prog W .any base t v := hval0
  have hW' := hW
  obtain ⟨p, q, hA0, hV, rfl, hfz, hnd⟩ := hW
  have hA : DataW.TrodAll enc Try.prog W 0 (fun _ => true) true Try.f4.params.toList args.toList ds p := hA0
  rw [Try.params4] at hA hval
  obtain ⟨v0, vs0, d0, ds0, p0, q0, hargs, rfl, rfl, h0, r0⟩ := trodAll_cons hA
  obtain ⟨rfl, rfl, rfl⟩ := trodAll_nil r0
  obtain rfl : args = #[v0] := by cases args; simp_all
  obtain ⟨rfl, rfl⟩ := trodVars_none hV
  obtain ⟨a0, rfl, rfl, rfl, w0⟩ := open_int Try.underlying3 (hval 0 3 v0 rfl rfl) h0
  clear hA0 hval0
  simp only [List.append_nil] at hW'
  refine (walk a0 W).mono fun e W' ⟨he, bel⟩ => ?_
  subst he
  exact ⟨_, rfl, _, _, _, [], _, [], hW', trodAll_mk1 (shut_bool Try.underlying4 _), (trodAll_cons_mk (shut_int Try.underlying3 w0) trodAll_mk0), rfl, bel.frame _, fun h => by cases h⟩

theorem over : Rows.shaConstantsRow.holds Try.pinned (OpenSpec.ofChange Rows.shaConstantsSpec) :=
  OpenClaim.holds_of_wide 4 Try.f4 rfl rfl rfl rfl rfl rfl rfl ⟨rfl, rfl, rfl, rfl, rfl⟩ rfl rfl rfl rfl rfl (by kernel_rfl) Try.func4 (by kernel_rfl)
    (of_decide_eq_true (by kernel_rfl)) (by unfold Func.isWrapper; first | (rw [if_pos (by decide +kernel)]; kernel_rfl) | (rw [if_neg (by decide +kernel)]; exact ⟨rfl, rfl⟩))
    (fun os started H enc _ => lifted os started H enc)

/-- THE STATEMENT -/
theorem proved : Rows.ShaConstantsSaid := over
#print axioms proved
end Go.Proofs.Ytgijfohgffhllaa.shaConstants
