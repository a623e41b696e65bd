/-
  OWN WORK, A PART: an abstract machine for the program's text that the kernel can run, and the proof that it is sound: what it answers is what the program answers; contracts of functions by it. No condition.
-/
import Derived.Test.YtelehjeifhelnaaWbE
section
open Go Go.Ax Go.Proofs
namespace Go.Proofs.Ytelehjeifhelnaa.ovp
set_option linter.unusedVariables false
noncomputable def ER : Env := envEx Try.prog [0, 3, 4, 5, 22, 24, 27, 30, 32, 35, 37, 39, 40, 42, 43, 77, 81, 84] [(11, Try.f11), (15, Try.f15), (16, Try.f16), (18, Try.f18)] []
noncomputable def EA : Env := envEx Try.prog [0, 3, 4, 5, 22, 24, 27, 30, 32, 35, 37, 39, 40, 42, 43, 77, 81, 84] [(11, Try.f11), (15, Try.f15), (16, Try.f16), (17, Try.f17), (18, Try.f18), (39, Try.f39), (40, Try.f40), (42, Try.f42), (44, Try.f44), (48, Try.f48), (49, Try.f49), (65, Try.f65)] []
noncomputable def smR (q : CallT) : CallT := onlyC [17, 39, 42, 48] q
noncomputable def c11 : Code := Option.getD Try.f11.body .skip
noncomputable def L11 : Code := lopB (blkB (seqR (seqL (dropC 0 c11))))
noncomputable def B11 : Code := blkB (seqL (seqR L11))
noncomputable def L12 : Code := lopB (blkB (seqR (seqL (dropC 0 B11))))
noncomputable def fr11 (V : AV) (z : Int) : AFr := xFr [(0, p0), (1, V), (4, .bool false), (5, .int .i64 z)] 67
noncomputable def fr12 (V : AV) (z : Int) (y : Bool) (i : Nat) : AFr := xFr [(0, p0), (1, V), (4, .bool false), (5, .int .i64 z), (6, .bool y), (7, nI i)] 67
noncomputable def tRt (V : AV) (z : Int) (T R W : AO) : Tr (Exit × AFr × ASt) := (TM ER noSum [] fl0 60).ex ⟨[], [], [9], []⟩ none (seqL L11) (fr11 V z) (S9 T R W)
noncomputable def tRi (V : AV) (z : Int) (T R W : AO) : Tr (Exit × AFr × ASt) := (TM ER noSum [] fl0 60).ex fl0 none (seqL (seqL (dropC 0 B11))) (xFr [(0, p0), (1, V), (4, .bool false), (5, .int .i64 z), (6, .bool false)] 67) (S9 T R W)
noncomputable def tRa (n i : Nat) (z : Int) (T R W : AO) : Tr (Exit × AFr × ASt) := (TM ER noSum [] fl0 60).ex ⟨[22, 24, 28, 30, 35, 37], [], [15, 31], []⟩ none L12 (fr12 (slW 2 n) z true i) (S9 T R W)
noncomputable def tRb (n i : Nat) (z : Int) (T R W : AO) : Tr (Exit × AFr × ASt) := (TM ER noSum [] fl0 60).ex ⟨[22, 24, 28, 30, 35, 37], [], [15, 31], []⟩ none L12 (fr12 (slW 2 n) z false i) (S9 T R W)
noncomputable def tRc (n i : Nat) (z b : Int) (T R W : AO) : Tr (Exit × AFr × ASt) := (TM ER noSum [] fl0 60).ex ⟨[22, 24, 28, 30, 35, 37], [], [15, 31], []⟩ none L12 (fr12 (slW 2 n) z false i) (S9 T R W)
noncomputable def tRd (q : CallT) (V : AV) (z : Int) (y : Bool) (i : Nat) (T R W : AO) : Tr (Exit × AFr × ASt) := (TM ER (smR q) [] fl0 60).ex ⟨[45, 47], [], [], []⟩ none (dropC 1 B11) (fr12 V z y i) (S9 T R W)
noncomputable def tRs (V : AV) (z : Int) (T R W : AO) : Tr (Exit × AFr × ASt) := (TM ER noSum [] fl0 60).ex fl0 none (seqR (seqR L11)) (fr11 V z) (S9 T R W)
noncomputable def tRz (q : CallT) (n : Nat) (z : Int) (R W O1 O2 : AO) (V1 V2 V3 V4 : AV) : Tr (Exit × AFr × ASt) := (TM ER (smR q) [(15, ⟨[4], [], [], []⟩), (16, ⟨[4], [], [], []⟩), (18, fl0)] fl0 60).ex ⟨[52, 57, 58, 64, 65], [55, 62], [], []⟩ none (dropC 1 c11) (fr11 (slW 2 n) z) (S9 (tob (slT n)) R W)
noncomputable def tR0 (R : List AV) : Tr (AV × ASt) := (TM EA noSum [] fl0 60).call 11 [p0, nilA] (S9 (tob (slT 0)) (.cells R true) .dead)
noncomputable def tR1 : Tr (AV × ASt) := (TM EA noSum [] fl0 60).call 11 [p0, nilA] (S9 (tob nilA) .dead .dead)
noncomputable def tR2 : Tr (AV × ASt) := (TM EA noSum [] fl0 60).call 11 [p0, nilA] (S9 (tob zeroA) zeroO .dead)
noncomputable def vcRt_s0 (T : AO) (R : AO) (W : AO) : ASt := mkSt [(0, T), (1, R), (2, W)] 3
theorem vcRt (V : AV) (z : Int) (T : AO) (R : AO) (W : AO) (Q : Exit × AFr × ASt → Prop) :
  (ifB (ltF z (.ofNat 66)) (Q (.normal, xFr [(0, .ptr (some (0, 0))), (1, V), (4, .bool false), (5, .int .i64 z)] 67, vcRt_s0 T R W)) (Q (.exit 0, xFr [(0, .ptr (some (0, 0))), (1, V), (4, .bool false), (5, .int .i64 z)] 67, vcRt_s0 T R W))) =
  (tRt V z T R W).allY (fun r => Q (canR [0, 1, 4, 5] [0, 1, 2, 3, 4, 5, 6, 7, 8, 9, 10, 11, 12, 13, 14, 15, 16, 17, 18, 19, 20, 21, 22, 23, 24, 25, 26, 27, 28, 29, 30, 31, 32, 33, 34, 35, 36, 37, 38, 39, 40, 41, 42, 43, 44, 45, 46, 47, 48, 49, 50, 51, 52, 53, 54, 55, 56, 57, 58, 59, 60, 61, 62, 63, 64, 65, 66, 67, 68, 69, 70, 71, 72, 73, 74, 75, 76, 77, 78, 79, 80, 81, 82, 83, 84, 85, 86, 87, 88, 89, 90, 91, 92, 93, 94, 95, 96, 97, 98, 99] r)) (.b .nil .nil) := by kernel_rfl
noncomputable def vcRi_s0 (T : AO) (R : AO) (W : AO) : ASt := mkSt [(0, T), (1, R), (2, W)] 3
theorem vcRi (V : AV) (z : Int) (T : AO) (R : AO) (W : AO) (Q : Exit × AFr × ASt → Prop) :
  (Q (.normal, xFr [(0, .ptr (some (0, 0))), (1, V), (4, .bool false), (5, .int .i64 z), (6, .bool false), (7, .int .i64 (.ofNat 0))] 67, vcRi_s0 T R W)) =
  (tRi V z T R W).allY (fun r => Q (canR [0, 1, 4, 5, 6, 7] [0, 1, 2, 3, 4, 5, 6, 7, 8, 9, 10, 11, 12, 13, 14, 15, 16, 17, 18, 19, 20, 21, 22, 23, 24, 25, 26, 27, 28, 29, 30, 31, 32, 33, 34, 35, 36, 37, 38, 39, 40, 41, 42, 43, 44, 45, 46, 47, 48, 49, 50, 51, 52, 53, 54, 55, 56, 57, 58, 59, 60, 61, 62, 63, 64, 65, 66, 67, 68, 69, 70, 71, 72, 73, 74, 75, 76, 77, 78, 79, 80, 81, 82, 83, 84, 85, 86, 87, 88, 89, 90, 91, 92, 93, 94, 95, 96, 97, 98, 99] r)) (.nil) := by kernel_rfl
noncomputable def vcRa_s0 (T : AO) (R : AO) (W : AO) : ASt := mkSt [(0, T), (1, R), (2, W)] 3
theorem vcRa (n : Nat) (i : Nat) (z : Int) (T : AO) (R : AO) (W : AO) (Q : Exit × AFr × ASt → Prop) :
  (ifB (ltF (.ofNat i) (.ofNat n)) (Q (.normal, xFr [(0, .ptr (some (0, 0))), (1, .slice (some (2, 0)) n (.rest 4)), (4, .bool false), (5, .int .i64 z), (6, .bool true), (7, .int .i64 (wrapF .i64 (.ofNat i + .ofNat 1)))] 67, vcRa_s0 T R W)) (Q (.exit 2, xFr [(0, .ptr (some (0, 0))), (1, .slice (some (2, 0)) n (.rest 4)), (4, .bool false), (5, .int .i64 z), (6, .bool true), (7, .int .i64 (.ofNat i))] 67, vcRa_s0 T R W))) =
  (tRa n i z T R W).allY (fun r => Q (canR [0, 1, 4, 5, 6, 7] [0, 1, 2, 3, 4, 5, 6, 7, 8, 9, 10, 11, 12, 13, 14, 15, 16, 17, 18, 19, 20, 21, 22, 23, 24, 25, 26, 27, 28, 29, 30, 31, 32, 33, 34, 35, 36, 37, 38, 39, 40, 41, 42, 43, 44, 45, 46, 47, 48, 49, 50, 51, 52, 53, 54, 55, 56, 57, 58, 59, 60, 61, 62, 63, 64, 65, 66, 67, 68, 69, 70, 71, 72, 73, 74, 75, 76, 77, 78, 79, 80, 81, 82, 83, 84, 85, 86, 87, 88, 89, 90, 91, 92, 93, 94, 95, 96, 97, 98, 99] r)) (.b .nil .nil) := by kernel_rfl
noncomputable def vcRb_s0 (T : AO) (R : AO) (W : AO) : ASt := mkSt [(0, T), (1, R), (2, W)] 3
theorem vcRb (n : Nat) (i : Nat) (z : Int) (T : AO) (R : AO) (W : AO) (Q : Exit × AFr × ASt → Prop) :
  (ifB (ltF (.ofNat i) (.ofNat n)) (still (vcRb_s0 T R W) (aIndexAddr ER 27 (.slice (some (2, 0)) n (.rest 4)) (.int .i64 (.ofNat i))) = some (.ptr (some (2, i * 4)), vcRb_s0 T R W) ∧ aLoad ER 4 (.ptr (some (2, i * 4 + 3))) (vcRb_s0 T R W) = some (.bool false, vcRb_s0 T R W) ∧ Q (.normal, xFr [(0, .ptr (some (0, 0))), (1, .slice (some (2, 0)) n (.rest 4)), (4, .bool false), (5, .int .i64 z), (6, .bool false), (7, .int .i64 (wrapF .i64 (.ofNat i + .ofNat 1)))] 67, vcRb_s0 T R W)) (Q (.exit 2, xFr [(0, .ptr (some (0, 0))), (1, .slice (some (2, 0)) n (.rest 4)), (4, .bool false), (5, .int .i64 z), (6, .bool false), (7, .int .i64 (.ofNat i))] 67, vcRb_s0 T R W))) =
  (tRb n i z T R W).allY (fun r => Q (canR [0, 1, 4, 5, 6, 7] [0, 1, 2, 3, 4, 5, 6, 7, 8, 9, 10, 11, 12, 13, 14, 15, 16, 17, 18, 19, 20, 21, 22, 23, 24, 25, 26, 27, 28, 29, 30, 31, 32, 33, 34, 35, 36, 37, 38, 39, 40, 41, 42, 43, 44, 45, 46, 47, 48, 49, 50, 51, 52, 53, 54, 55, 56, 57, 58, 59, 60, 61, 62, 63, 64, 65, 66, 67, 68, 69, 70, 71, 72, 73, 74, 75, 76, 77, 78, 79, 80, 81, 82, 83, 84, 85, 86, 87, 88, 89, 90, 91, 92, 93, 94, 95, 96, 97, 98, 99] r)) (.b (.v (.ptr (some (2, i * 4)), vcRb_s0 T R W) (.v (.bool false, vcRb_s0 T R W) .nil)) .nil) := by kernel_rfl
noncomputable def vcRc_s0 (T : AO) (R : AO) (W : AO) : ASt := mkSt [(0, T), (1, R), (2, W)] 3
theorem vcRc (n : Nat) (i : Nat) (z : Int) (b : Int) (T : AO) (R : AO) (W : AO) (Q : Exit × AFr × ASt → Prop) :
  (ifB (ltF (.ofNat i) (.ofNat n)) (still (vcRc_s0 T R W) (aIndexAddr ER 27 (.slice (some (2, 0)) n (.rest 4)) (.int .i64 (.ofNat i))) = some (.ptr (some (2, i * 4)), vcRc_s0 T R W) ∧ aLoad ER 4 (.ptr (some (2, i * 4 + 3))) (vcRc_s0 T R W) = some (.bool true, vcRc_s0 T R W) ∧ still (vcRc_s0 T R W) (aIndexAddr ER 27 (.slice (some (2, 0)) n (.rest 4)) (.int .i64 (.ofNat i))) = some (.ptr (some (2, i * 4)), vcRc_s0 T R W) ∧ aLoad ER 3 (.ptr (some (2, i * 4 + 1))) (vcRc_s0 T R W) = some (.int .i64 b, vcRc_s0 T R W) ∧ ifB (ltF b (.ofNat 0)) (Q (.normal, xFr [(0, .ptr (some (0, 0))), (1, .slice (some (2, 0)) n (.rest 4)), (4, .bool false), (5, .int .i64 z), (6, .bool true), (7, .int .i64 (wrapF .i64 (.ofNat i + .ofNat 1)))] 67, vcRc_s0 T R W)) (still (vcRc_s0 T R W) (aIndexAddr ER 27 (.slice (some (2, 0)) n (.rest 4)) (.int .i64 (.ofNat i))) = some (.ptr (some (2, i * 4)), vcRc_s0 T R W) ∧ aLoad ER 3 (.ptr (some (2, i * 4 + 1))) (vcRc_s0 T R W) = some (.int .i64 b, vcRc_s0 T R W) ∧ Q (.normal, xFr [(0, .ptr (some (0, 0))), (1, .slice (some (2, 0)) n (.rest 4)), (4, .bool false), (5, .int .i64 z), (6, .bool (eqF b z)), (7, .int .i64 (wrapF .i64 (.ofNat i + .ofNat 1)))] 67, vcRc_s0 T R W))) (Q (.exit 2, xFr [(0, .ptr (some (0, 0))), (1, .slice (some (2, 0)) n (.rest 4)), (4, .bool false), (5, .int .i64 z), (6, .bool false), (7, .int .i64 (.ofNat i))] 67, vcRc_s0 T R W))) =
  (tRc n i z b T R W).allY (fun r => Q (canR [0, 1, 4, 5, 6, 7] [0, 1, 2, 3, 4, 5, 6, 7, 8, 9, 10, 11, 12, 13, 14, 15, 16, 17, 18, 19, 20, 21, 22, 23, 24, 25, 26, 27, 28, 29, 30, 31, 32, 33, 34, 35, 36, 37, 38, 39, 40, 41, 42, 43, 44, 45, 46, 47, 48, 49, 50, 51, 52, 53, 54, 55, 56, 57, 58, 59, 60, 61, 62, 63, 64, 65, 66, 67, 68, 69, 70, 71, 72, 73, 74, 75, 76, 77, 78, 79, 80, 81, 82, 83, 84, 85, 86, 87, 88, 89, 90, 91, 92, 93, 94, 95, 96, 97, 98, 99] r)) (.b (.v (.ptr (some (2, i * 4)), vcRc_s0 T R W) (.v (.bool true, vcRc_s0 T R W) (.v (.ptr (some (2, i * 4)), vcRc_s0 T R W) (.v (.int .i64 b, vcRc_s0 T R W) (.b .nil (.v (.ptr (some (2, i * 4)), vcRc_s0 T R W) (.v (.int .i64 b, vcRc_s0 T R W) .nil))))))) .nil) := by kernel_rfl
noncomputable def vcRd_s0 (T : AO) (R : AO) (W : AO) : ASt := mkSt [(0, T), (1, R), (2, W)] 3
noncomputable def vcRd_s1 (T : AO) (R : AO) (W : AO) : ASt := mkSt [(0, T), (1, R), (2, W)] 43
theorem vcRd (q : CallT) (V : AV) (z : Int) (y : Bool) (i : Nat) (T : AO) (R : AO) (W : AO) (Q : Exit × AFr × ASt → Prop) :
  ((M ER (drawA ER) (smR q) 58).call 17 [.ptr (some (0, 0)), .int .i64 z] (vcRd_s0 T R W) = some (.bool y, vcRd_s1 T R W) ∧ still (vcRd_s1 T R W) (aBin ER .neq 4 (.tmp 45) (.tmp 46) (.bool y) (.bool y)) = some (.bool false, vcRd_s1 T R W) ∧ Q (.normal, xFr [(0, .ptr (some (0, 0))), (1, V), (4, .bool false), (5, .int .i64 z)] 67, vcRd_s1 T R W)) =
  (tRd q V z y i T R W).allY (fun r => Q (canR [0, 1, 4, 5] [0, 1, 2, 3, 4, 5, 6, 7, 8, 9, 10, 11, 12, 13, 14, 15, 16, 17, 18, 19, 20, 21, 22, 23, 24, 25, 26, 27, 28, 29, 30, 31, 32, 33, 34, 35, 36, 37, 38, 39, 40, 41, 42, 43, 44, 45, 46, 47, 48, 49, 50, 51, 52, 53, 54, 55, 56, 57, 58, 59, 60, 61, 62, 63, 64, 65, 66, 67, 68, 69, 70, 71, 72, 73, 74, 75, 76, 77, 78, 79, 80, 81, 82, 83, 84, 85, 86, 87, 88, 89, 90, 91, 92, 93, 94, 95, 96, 97, 98, 99] r)) (.v (.bool y, vcRd_s1 T R W) (.v (.bool false, vcRd_s1 T R W) .nil)) := by kernel_rfl
noncomputable def vcRs_s0 (T : AO) (R : AO) (W : AO) : ASt := mkSt [(0, T), (1, R), (2, W)] 3
theorem vcRs (V : AV) (z : Int) (T : AO) (R : AO) (W : AO) (Q : Exit × AFr × ASt → Prop) :
  (Q (.normal, xFr [(0, .ptr (some (0, 0))), (1, V), (4, .bool false), (5, .int .i64 (wrapF .i64 (z + .ofNat 1)))] 67, vcRs_s0 T R W)) =
  (tRs V z T R W).allY (fun r => Q (canR [0, 1, 4, 5] [0, 1, 2, 3, 4, 5, 6, 7, 8, 9, 10, 11, 12, 13, 14, 15, 16, 17, 18, 19, 20, 21, 22, 23, 24, 25, 26, 27, 28, 29, 30, 31, 32, 33, 34, 35, 36, 37, 38, 39, 40, 41, 42, 43, 44, 45, 46, 47, 48, 49, 50, 51, 52, 53, 54, 55, 56, 57, 58, 59, 60, 61, 62, 63, 64, 65, 66, 67, 68, 69, 70, 71, 72, 73, 74, 75, 76, 77, 78, 79, 80, 81, 82, 83, 84, 85, 86, 87, 88, 89, 90, 91, 92, 93, 94, 95, 96, 97, 98, 99] r)) (.nil) := by kernel_rfl
noncomputable def vcRz_s0 (n : Nat) (R : AO) (W : AO) : ASt := mkSt [(0, .cells [.bool true, .slice (some (1, 0)) n (.rest 4)] true), (1, R), (2, W)] 3
noncomputable def vcRz_s1 (n : Nat) (R : AO) (W : AO) (O1 : AO) : ASt := mkSt [(0, .cells [.bool true, .slice (some (1, 0)) n (.rest 4)] true), (1, R), (2, W), (5, O1)] 43
noncomputable def vcRz_s2 (n : Nat) (R : AO) (W : AO) (O1 : AO) : ASt := mkSt [(0, .cells [.bool true, .slice (some (1, 0)) n (.rest 4)] true), (1, R), (2, W), (5, O1), (44, O1)] 45
noncomputable def vcRz_s3 (n : Nat) (R : AO) (W : AO) (O1 : AO) (O2 : AO) : ASt := mkSt [(0, .cells [.bool true, .slice (some (1, 0)) n (.rest 4)] true), (1, R), (2, W), (5, O1), (44, O1), (47, O2)] 85
noncomputable def vcRz_s4 (n : Nat) (R : AO) (W : AO) (O1 : AO) (O2 : AO) : ASt := mkSt [(0, .cells [.bool true, .slice (some (1, 0)) n (.rest 4)] true), (1, R), (2, W), (5, O1), (44, O1), (47, O2), (86, O2)] 87
theorem vcRz (q : CallT) (n : Nat) (z : Int) (R : AO) (W : AO) (O1 : AO) (O2 : AO) (V1 : AV) (V2 : AV) (V3 : AV) (V4 : AV) (Q : Exit × AFr × ASt → Prop) :
  (still (vcRz_s0 n R W) (aBin ER .eql 3 (.tmp 49) (.tmp 51) (.int .i64 (.ofNat n)) (.int .i64 (.ofNat n))) = some (.bool true, vcRz_s0 n R W) ∧ (M ER (drawA ER) (smR q) 54).call 48 [.ptr (some (0, 0)), .bool true] (vcRz_s0 n R W) = some (V1, vcRz_s1 n R W O1) ∧ (M ER (drawA ER) (smR q) 58).call 42 [.slice (some (2, 0)) n (.rest 4), .bool true] (vcRz_s1 n R W O1) = some (V2, vcRz_s2 n R W O1) ∧ (M ER (drawA ER) (smR q) 58).call 39 [V1, V2] (vcRz_s2 n R W O1) = some (.bool true, vcRz_s2 n R W O1) ∧ (M ER (drawA ER) (smR q) 54).call 48 [.ptr (some (0, 0)), .bool false] (vcRz_s2 n R W O1) = some (V3, vcRz_s3 n R W O1 O2) ∧ (M ER (drawA ER) (smR q) 58).call 42 [.slice (some (2, 0)) n (.rest 4), .bool false] (vcRz_s3 n R W O1 O2) = some (V4, vcRz_s4 n R W O1 O2) ∧ (M ER (drawA ER) (smR q) 58).call 39 [V3, V4] (vcRz_s4 n R W O1 O2) = some (.bool true, vcRz_s4 n R W O1 O2) ∧ Q (.ret, xFr [(4, .bool true)] 67, vcRz_s4 n R W O1 O2)) =
  (tRz q n z R W O1 O2 V1 V2 V3 V4).allY (fun r => Q (canR [4] [0, 1, 2, 3, 4, 5, 6, 7, 8, 9, 10, 11, 12, 13, 14, 15, 16, 17, 18, 19, 20, 21, 22, 23, 24, 25, 26, 27, 28, 29, 30, 31, 32, 33, 34, 35, 36, 37, 38, 39, 40, 41, 42, 43, 44, 45, 46, 47, 48, 49, 50, 51, 52, 53, 54, 55, 56, 57, 58, 59, 60, 61, 62, 63, 64, 65, 66, 67, 68, 69, 70, 71, 72, 73, 74, 75, 76, 77, 78, 79, 80, 81, 82, 83, 84, 85, 86, 87, 88, 89, 90, 91, 92, 93, 94, 95, 96, 97, 98, 99] r)) (.v (.bool true, vcRz_s0 n R W) (.v (V1, vcRz_s1 n R W O1) (.v (V2, vcRz_s2 n R W O1) (.v (.bool true, vcRz_s2 n R W O1) (.v (V3, vcRz_s3 n R W O1 O2) (.v (V4, vcRz_s4 n R W O1 O2) (.v (.bool true, vcRz_s4 n R W O1 O2) .nil))))))) := by kernel_rfl
noncomputable def vcR0_s0 (R : List AV) : ASt := mkSt [(0, .cells [.bool true, .slice (some (1, 0)) 0 (.rest 4)] true), (1, .cells R true), (2, .dead)] 70
theorem vcR0 (R : List AV) (Q : AV × ASt → Prop) :
  (Q (.bool true, vcR0_s0 R)) =
  (tR0 R).allY (fun r => Q (r.1, canS [0, 1, 2] r.2)) (.nil) := by kernel_rfl
noncomputable def vcR1_s0  : ASt := mkSt [(0, .cells [.bool true, .slice none 0 (.known 0)] true), (1, .dead), (2, .dead)] 70
theorem vcR1  (Q : AV × ASt → Prop) :
  (Q (.bool true, vcR1_s0 )) =
  (tR1 ).allY (fun r => Q (r.1, canS [0, 1, 2] r.2)) (.nil) := by kernel_rfl
noncomputable def vcR2_s0  : ASt := mkSt [(0, .cells [.bool true, .slice (some (1, 0)) 0 (.known 0)] true), (1, .cells [] true), (2, .dead)] 70
theorem vcR2  (Q : AV × ASt → Prop) :
  (Q (.bool true, vcR2_s0 )) =
  (tR2 ).allY (fun r => Q (r.1, canS [0, 1, 2] r.2)) (.nil) := by kernel_rfl
end Go.Proofs.Ytelehjeifhelnaa.ovp
end

section
open Go Go.Ax Go.Proofs
namespace Go.Proofs.Ytelehjeifhelnaa.ovp
set_option linter.unusedVariables false
theorem ERok : Env.Ok Try.prog ER := envEx_ok (xs := []) ⟨⟨Try.func11, Try.call11⟩, ⟨Try.func15, Try.call15⟩, ⟨Try.func16, Try.call16⟩, ⟨Try.func18, Try.call18⟩, trivial⟩ trivial (by kernel_rfl)
theorem EAok : Env.Ok Try.prog EA := envEx_ok (xs := []) ⟨⟨Try.func11, Try.call11⟩, ⟨Try.func15, Try.call15⟩, ⟨Try.func16, Try.call16⟩, ⟨Try.func17, Try.call17⟩, ⟨Try.func18, Try.call18⟩, ⟨Try.func39, Try.call39⟩, ⟨Try.func40, Try.call40⟩, ⟨Try.func42, Try.call42⟩, ⟨Try.func44, Try.call44⟩, ⟨Try.func48, Try.call48⟩, ⟨Try.func49, Try.call49⟩, ⟨Try.func65, Try.call65⟩, trivial⟩ trivial (by kernel_rfl)
theorem rl27 : sliceT ER 27 = some 4 := by kernel_rfl
theorem rc4 : cellT ER 4 = true := by kernel_rfl
theorem rc3 : cellT ER 3 = true := by kernel_rfl
section
variable {l : List RQ} {m b z : Int} {w : Bool} {V : AV} {R : AO} {S : ASt} {cs : List AV} {k i n f : Nat} {r : RQ} {c cp : Cap} {args : List AV} {Q1 : AV × ASt → Prop} {T1 R1 : AO} {ot : List (Nat × AO)} {v : AV}
theorem tabS2 (hS0 : S.h.get 0 = some (tob (.slice (some (1, 0)) n c))) (hS1 : S.h.get 1 = some (.cells cs true)) (hcs : ∀ x, x ∈ cs → refsV 0 x)
    (hrun : ∀ B w0 ι W args', (∀ i, ¬ B.rs i) → SR B w0 ι (M2 (.slice (some (1, 0)) n c) (.cells cs true)) W → VRs ι args args' → (callFunc f args').run Try.prog W = .ok (.enter f args') W ∧ CallsIn Fence.wide 0 Try.prog f args' W fun e w' => ∃ v, Q1 v ∧ Post B w0 ι v e w')
    (hargs : ∀ v, v ∈ args → renV (List.range 2) v = some v)
    (hb : ∀ q, Q1 q → BackV (gK 2 S.next) q.1 v ∧ q.2.next ≤ 40 ∧ (T1.own = true ∧ ∃ a, q.2.h.get 0 = some a ∧ BackO (gK 2 S.next) a T1) ∧ (R1 = .dead ∨ R1.own = true ∧ ∃ a, q.2.h.get 1 = some a ∧ BackO (gK 2 S.next) a R1) ∧
      ∀ p, p ∈ ot → 2 ≤ p.1 ∧ p.1 < 40 ∧ (p.2 = .dead ∨ p.2.own = true ∧ ∃ a, q.2.h.get p.1 = some a ∧ BackO (gK 2 S.next) a p.2)) :
    Call1 Try.prog f args S (v, outS (gK 2 S.next) ((0, T1) :: (1, R1) :: ot) S (S.next + 40)) := by
  have g0 : (M2 (.slice (some (1, 0)) n c) (.cells cs true)).h.get 0 = some (tob (.slice (some (1, 0)) n c)) := by kernel_rfl
  have g1 : (M2 (.slice (some (1, 0)) n c) (.cells cs true)).h.get 1 = some (.cells cs true) := by kernel_rfl
  refine Call1.same (S := S) 2 2 (Nat.le_refl 2) hrun rfl (fun j hj => ?_) (fun j x hj => ?_) hargs fun q hq => ?_
  · match j, hj with
    | 0, _ => exact ⟨_, hS0, by simp [tob]⟩
    | 1, _ => exact ⟨_, hS1, by simp⟩
  · rcases get2 hj with ⟨rfl, rfl⟩ | ⟨rfl, rfl⟩
    · exact ⟨by decide, fun _ => ⟨by decide, hS0, .of (by kernel_rfl)⟩⟩
    · exact ⟨by decide, fun _ => ⟨by decide, hS1, .row hcs⟩⟩
  · obtain ⟨b1, b2, b3, b4, b5⟩ := hb q hq
    refine ⟨b1, by omega, by omega, fun p hp => ?_, fun j x hj ho => ?_⟩
    · rcases List.mem_cons.1 hp with rfl | hp
      · exact ⟨(by show 0 < S.next + 40; omega), .inl (by show 0 < 2; decide), fun _ => ⟨_, g0, rfl⟩, .inr b3⟩
      · rcases List.mem_cons.1 hp with rfl | hp
        · exact ⟨(by show 1 < S.next + 40; omega), .inl (by show 1 < 2; decide), fun _ => ⟨_, g1, rfl⟩, b4⟩
        · obtain ⟨c1, c2, c3⟩ := b5 p hp
          have hg : gK 2 S.next p.1 = S.next + p.1 := by
            unfold gK
            cases h : Nat.blt p.1 2 with
            | false => rfl
            | true => rw [Nat.blt_eq] at h; omega
          exact ⟨by rw [hg]; omega, .inr c1, fun h => absurd h (by omega), c3⟩
    · rcases get2 hj with ⟨rfl, rfl⟩ | ⟨rfl, rfl⟩
      · exact ⟨_, List.mem_cons_self, rfl⟩
      · exact ⟨_, List.mem_cons_of_mem _ List.mem_cons_self, rfl⟩
theorem tob_backN {nx : Nat} : BackO (gK 2 nx) (tob (.slice (some (1, 0)) n c)) (tob (.slice (some (1, 0)) n c)) := .cells rfl
theorem those_at (hS0 : S.h.get 0 = some (tob (slT l.length))) (hS1 : S.h.get 1 = some (.cells cs true)) (hR : RowR cs l) (hl : l.length < 100000) :
    Call1 Try.prog 48 [p0, .bool w] S (Vr (S.next + 2) (numV w l), outS (gK 2 S.next) [(0, tob (slT l.length)), (1, .cells cs true), (2, Bn (numV w l))] S (S.next + 40)) := by
  refine tabS2 (S := S) (ot := [(2, Bn (numV w l))]) (T1 := tob (slT l.length)) (R1 := .cells cs true) hS0 hS1 hR.refs (fun B w0 ι W args' hB hsr hv => thoseRun (w := w) (by omega) hR B w0 ι W args' hB hsr hv) (fun v hv => ?_) (fun q hq => ?_)
  · simp only [List.mem_cons, List.not_mem_nil, or_false] at hv
    rcases hv with rfl | rfl <;> kernel_rfl
  · subst hq
    refine ⟨BackV.eq mapV_Vr, by show 3 ≤ 40; decide, ⟨rfl, _, (by kernel_rfl : _ = some (tob (slT l.length))), tob_backN⟩, .inr ⟨rfl, _, (by kernel_rfl : _ = some (.cells cs true)), .row hR.refs⟩, fun p hp => ?_⟩
    simp only [List.mem_cons, List.not_mem_nil, or_false] at hp
    subst hp
    refine ⟨by show 2 ≤ 2; decide, by show 2 < 40; decide, ?_⟩
    have : (S3 (slT l.length) (.cells cs true) (Bn (numV w l))).h.get 2 = some (Bn (numV w l)) := by kernel_rfl
    cases e : numV w l with
    | nil => exact .inl rfl
    | cons y ys =>
      rw [e] at this
      exact .inr ⟨rfl, _, this, BackO.row cu_refs⟩
noncomputable def EB : Env := envEx Try.prog [0, 3, 4, 5, 24, 30, 35, 37, 81, 84] [(17, Try.f17), (40, Try.f40)] []
theorem EBok : Env.Ok Try.prog EB := envEx_ok (xs := []) ⟨⟨Try.func17, Try.call17⟩, ⟨Try.func40, Try.call40⟩, trivial⟩ trivial (by kernel_rfl)
noncomputable def tBy (q : CallT) (n : Nat) (z : Int) (y : Bool) (R : AO) : Tr (AV × ASt) := (TM EB (onlyC [44] q) [(17, ⟨[13], [], [], []⟩)] fl0 60).call 17 [p0, .int .i64 z] (M2 (slT n) R)
noncomputable def sBy (n : Nat) (z : Int) (R : AO) : ASt := mkSt [(0, tob (slT n)), (1, R), (2, .cells [.int .i64 z] true)] 3
theorem vcBy (q : CallT) (n : Nat) (z : Int) (y : Bool) (R : AO) (Q : AV × ASt → Prop) :
    ((M EB (drawA EB) (onlyC [44] q) 56).call 44 [slT n, .clos 49 [.ptr (some (2, 0))]] (sBy n z R) = some (.bool y, sBy n z R) ∧ Q (.bool y, sBy n z R)) = (tBy q n z y R).allY (fun r => Q (r.1, canS [0, 1, 2] r.2)) (.v (.bool y, sBy n z R) .nil) := by kernel_rfl
theorem busy_at (hS0 : S.h.get 0 = some (tob (slT l.length))) (hS1 : S.h.get 1 = some (.cells cs true)) (hR : RowR cs l) (h0 : l ≠ []) (hl : l.length < 100000) :
    Call1 Try.prog 17 [p0, .int .i64 z] S (.bool (l.any (busyP z)), outS (gK 2 S.next) [(0, tob (slT l.length)), (1, .cells cs true)] S (S.next + 40)) := by
  have hc : Call1 Try.prog 44 [slT l.length, .clos 49 [.ptr (some (2, 0))]] (sBy l.length z (.cells cs true)) (.bool (l.any (busyP z)), sBy l.length z (.cells cs true)) :=
    busy_any (rw' := true) (by omega) h0 (hR.row (rw := true) (by kernel_rfl)) (by kernel_rfl)
  refine tabS2 (S := S) (ot := []) (T1 := tob (slT l.length)) (R1 := .cells cs true) (Q1 := fun q => q = (.bool (l.any (busyP z)), sBy l.length z (.cells cs true))) hS0 hS1 hR.refs (fun B w0 ι W args' hB hsr hv => run_of_tm EBok (onlyC_ok (tabC_ok fun e he => by
    simp only [List.mem_cons, List.not_mem_nil, or_false] at he
    subst he; exact hc)) (ko := [0, 1, 2]) (Eq.mp (vcBy (tabC [_]) l.length z (l.any (busyP z)) (.cells cs true) (fun q => q = (.bool (l.any (busyP z)), sBy l.length z (.cells cs true)))) ⟨call_at (onlyC_at rfl (tabC_hd ..)), rfl⟩) B w0 ι W args' hsr hv) (fun v hv => ?_) (fun q hq => ?_)
  · simp only [List.mem_cons, List.not_mem_nil, or_false] at hv
    rcases hv with rfl | rfl <;> kernel_rfl
  · subst hq
    exact ⟨.keep (by simp [refsV]), by show 3 ≤ 40; decide, ⟨rfl, _, (by kernel_rfl : _ = some (tob (slT l.length))), tob_backN⟩, .inr ⟨rfl, _, (by kernel_rfl : _ = some (.cells cs true)), .row hR.refs⟩, fun p hp => by cases hp⟩
theorem ridx (hi : i < n) : still S (aIndexAddr ER 27 (.slice (some (k, 0)) n cp) (.int .i64 (.ofNat i))) = some (.ptr (some (k, i * 4)), S) := by
  have := idx_at (E := ER) (t := 27) (i := k) (o := 0) (n := n) (c := cp) (kd := .i64) rl27 hi
  rw [Nat.zero_add] at this
  exact still_of this
theorem rload3 {rw : Bool} (hS : S.h.get k = some (.cells (l.flatMap enc4) rw)) (hr : l[i]? = some r) : aLoad ER 4 (.ptr (some (k, i * 4 + 3))) S = some (.bool r.way, S) := load_at rc4 hS (fm_get enc4_len hr rfl)
theorem rload1 {rw : Bool} (hS : S.h.get k = some (.cells (l.flatMap enc4) rw)) (hr : l[i]? = some r) : aLoad ER 3 (.ptr (some (k, i * 4 + 1))) S = some (.int .i64 r.blk, S) := load_at rc3 hS (fm_get enc4_len hr rfl)
noncomputable def SR9 (l : List RQ) (cs : List AV) : ASt := S9 (tob (slT l.length)) (.cells cs true) (rowW l)
def QR (l : List RQ) (cs : List AV) (z : Int) (y : Bool) (i : Nat) (q : Exit × AFr × ASt) : Prop := (∃ r, l[i]? = some r ∧ Stops 3 .normal (fr12 (slW 2 l.length) z (bif y then true else busyP z r) (i + 1)) (SR9 l cs) q) ∨ (i = l.length ∧ Stops 3 (.exit 2) (fr12 (slW 2 l.length) z y i) (SR9 l cs) q)
theorem roundR {y : Bool} (hl : l.length < 100000) (hi : i ≤ l.length) : Trip Try.prog 3 none L12 (fr12 (slW 2 l.length) z y i) (SR9 l cs) (QR l cs z y i) := by
  have fin : ∀ {r : Exit × AFr × ASt}, QR l cs z y i (canR [0, 1, 4, 5, 6, 7] KO99 r) → QR l cs z y i r := fun h => h.imp (fun ⟨r, h1, h2⟩ => ⟨r, h1, h2.can⟩) (fun h => ⟨h.1, h.2.can⟩)
  by_cases e : i < l.length
  · obtain ⟨r, hr⟩ : ∃ r, l[i]? = some r := ⟨_, List.getElem?_eq_getElem e⟩
    have e1 : wrapF .i64 (Int.ofNat i + Int.ofNat 1) = .ofNat (i + 1) := wI e (by omega)
    cases y with
    | true =>
      refine (Trip.runY ERok noSum_ok (Eq.mp (vcRa l.length i z (tob (slT l.length)) (.cells cs true) (rowW l) (QR l cs z true i)) (ifB_mk (fun _ => .inl ⟨r, hr, rfl, ?_⟩) fun h => nlt' e h))).mono fun q hq => fin hq
      rw [e1]
      exact Wk.refl _ _ _
    | false =>
      cases hw : r.way with
      | false =>
        refine (Trip.runY ERok noSum_ok (Eq.mp (vcRb l.length i z (tob (slT l.length)) (.cells cs true) (rowW l) (QR l cs z false i)) (ifB_mk (fun _ => ⟨ridx e, by rw [← hw]; exact rload3 (rw := true) (by kernel_rfl) hr, .inl ⟨r, hr, rfl, ?_⟩⟩) fun h => nlt' e h))).mono fun q hq => fin hq
        have hb : busyP z r = false := by unfold busyP; rw [hw]; rfl
        rw [e1, hb]
        exact Wk.refl _ _ _
      | true =>
        refine (Trip.runY ERok noSum_ok (Eq.mp (vcRc l.length i z r.blk (tob (slT l.length)) (.cells cs true) (rowW l) (QR l cs z false i)) (ifB_mk (fun _ => ⟨ridx e, by rw [← hw]; exact rload3 (rw := true) (by kernel_rfl) hr, ridx e, rload1 (rw := true) (by kernel_rfl) hr, ifB_mk (fun g => .inl ⟨r, hr, rfl, ?_⟩) (fun g => ⟨ridx e, rload1 (rw := true) (by kernel_rfl) hr, .inl ⟨r, hr, rfl, ?_⟩⟩)⟩) fun h => nlt' e h))).mono fun q hq => fin hq
        · have hb : busyP z r = true := by unfold busyP; rw [hw, g]; rfl
          rw [e1, hb]
          exact Wk.refl _ _ _
        · have hb : busyP z r = eqF r.blk z := by unfold busyP; rw [hw, g]; rfl
          rw [e1, hb]
          exact Wk.refl _ _ _
  · have ek : i = l.length := by omega
    cases y with
    | true =>
      refine (Trip.runY ERok noSum_ok (Eq.mp (vcRa l.length i z (tob (slT l.length)) (.cells cs true) (rowW l) (QR l cs z true i)) (ifB_mk (fun h => ?_) fun _ => .inr ⟨ek, rfl, Wk.refl _ _ _⟩))).mono fun q hq => fin hq
      rw [ltF_nn] at h
      exact absurd (of_decide_eq_true h) e
    | false =>
      refine (Trip.runY ERok noSum_ok (Eq.mp (vcRb l.length i z (tob (slT l.length)) (.cells cs true) (rowW l) (QR l cs z false i)) (ifB_mk (fun h => ?_) fun _ => .inr ⟨ek, rfl, Wk.refl _ _ _⟩))).mono fun q hq => fin hq
      rw [ltF_nn] at h
      exact absurd (of_decide_eq_true h) e
theorem any_succ {p : RQ → Bool} (h : l[k]? = some r) : (l.take (k + 1)).any p = (bif (l.take k).any p then true else p r) := by
  rw [List.take_add_one, h, List.any_append]
  cases (l.take k).any p <;> simp
theorem loopR (hl : l.length < 100000) : Trip Try.prog 3 none (.block 2 (.loop L12)) (fr12 (slW 2 l.length) z false 0) (SR9 l cs) (Stops 3 .normal (fr12 (slW 2 l.length) z (l.any (busyP z)) l.length) (SR9 l cs)) := by
  refine Trip.block (Trip.loop (fun μ fr st => ∃ k y, k ≤ l.length ∧ μ = l.length - k ∧ (l.take k).any (busyP z) = y ∧ fr = fr12 (slW 2 l.length) z y k ∧ st = SR9 l cs) ?_ l.length ⟨0, false, by omega, by omega, rfl, rfl, rfl⟩)
  rintro μ fr st ⟨k, y, hk, rfl, hy, rfl, rfl⟩
  refine (roundR hl hk).mono ?_
  rintro ⟨e, fr', st'⟩ (⟨r, h2, h4, h5⟩ | ⟨h2, h4, h5⟩)
  · simp only at h4
    subst h4
    have hk2 : k < l.length := (List.getElem?_eq_some_iff.1 h2).1
    exact ⟨l.length - (k + 1), _, _, by omega, h5, k + 1, _, by omega, rfl, by rw [any_succ h2, hy], rfl, rfl⟩
  · simp only at h4
    subst h4
    subst h2
    rw [List.take_length] at hy
    subst hy
    exact ⟨fun _ => ⟨rfl, h5⟩, fun h => absurd rfl h⟩
def zN : Nat → Int
  | 0 => .negSucc 0
  | k + 1 => .ofNat k
theorem zN_lt {k : Nat} : ltF (zN k) (.ofNat 66) = decide (k < 67) := by
  cases k with
  | zero => rfl
  | succ k =>
    show ltF (.ofNat k) (.ofNat 66) = _
    rw [ltF_nn]
    by_cases h : k < 66
    · rw [decide_eq_true h, decide_eq_true (by omega)]
    · rw [decide_eq_false h, decide_eq_false (by omega)]
theorem zN_succ {k : Nat} (h : k < 100) : wrapF .i64 (zN k + .ofNat 1) = zN (k + 1) := by
  cases k with
  | zero => rfl
  | succ k => exact wI (i := k) (n := 100) (by omega) (by decide)
theorem shapeL11 : L11 = .seq (seqL L11) (.seq (.block 1 (.seq (seqL B11) (.seq (.seq (seqL (seqL (dropC 0 B11))) (.block 2 (.loop L12))) (dropC 1 B11)))) (seqR (seqR L11))) := by kernel_rfl
def QO (l : List RQ) (cs : List AV) (k : Nat) (q : Exit × AFr × ASt) : Prop := (k < 67 ∧ Stops 3 .normal (fr11 (slW 2 l.length) (zN (k + 1))) (SR9 l cs) q) ∨ (k = 67 ∧ Stops 3 (.exit 0) (fr11 (slW 2 l.length) (zN k)) (SR9 l cs) q)
theorem roundO (hR : RowR cs l) (h0 : l ≠ []) (hl : l.length < 100000) (hk : k ≤ 67) : Trip Try.prog 3 none L11 (fr11 (slW 2 l.length) (zN k)) (SR9 l cs) (QO l cs k) := by
  rw [shapeL11]
  refine Trip.seq (R := fun q => (k < 67 ∧ Stops 3 .normal (fr11 (slW 2 l.length) (zN k)) (SR9 l cs) q) ∨ (k = 67 ∧ Stops 3 (.exit 0) (fr11 (slW 2 l.length) (zN k)) (SR9 l cs) q)) ?_ (fun fr' st' hq => ?_) (fun e fr' st' hne hq => ?_)
  · refine (Trip.runY ERok noSum_ok (Eq.mp (vcRt (slW 2 l.length) (zN k) (tob (slT l.length)) (.cells cs true) (rowW l) (fun q => (k < 67 ∧ Stops 3 .normal (fr11 (slW 2 l.length) (zN k)) (SR9 l cs) q) ∨ (k = 67 ∧ Stops 3 (.exit 0) (fr11 (slW 2 l.length) (zN k)) (SR9 l cs) q))) (ifB_mk (fun h => ?_) (fun h => ?_)))).mono fun q hq => hq.imp (fun h => ⟨h.1, h.2.can⟩) (fun h => ⟨h.1, h.2.can⟩)
    · rw [zN_lt] at h
      exact .inl ⟨of_decide_eq_true h, rfl, Wk.refl _ _ _⟩
    · rw [zN_lt] at h
      have := of_decide_eq_false h
      exact .inr ⟨by omega, rfl, Wk.refl _ _ _⟩
  · rcases hq with ⟨h67, _, hq⟩ | ⟨_, h, _⟩
    · refine Trip.less hq ?_
      refine Trip.seq (R := Stops 3 .normal (fr11 (slW 2 l.length) (zN k)) (SR9 l cs)) (Trip.block ?_) (fun fr' st' hq => Trip.less hq.2 ?_) (fun e fr' st' hne hq => absurd hq.1 hne)
      · refine Trip.mono (Q := Stops 3 .normal (fr11 (slW 2 l.length) (zN k)) (SR9 l cs)) ?_ (fun r hr => ?_)
        · refine Trip.seqC ERok noSum_ok (n := 60) [0, 1, 4, 5, 6] KO99 (F := xFr [(0, p0), (1, slW 2 l.length), (4, .bool false), (5, .int .i64 (zN k)), (6, .bool false)] 67) (S := SR9 l cs) (by kernel_rfl) ?_
          refine Trip.seq (R := Stops 3 .normal (fr12 (slW 2 l.length) (zN k) (l.any (busyP (zN k))) l.length) (SR9 l cs)) (Trip.seq (R := Stops 3 .normal (fr12 (slW 2 l.length) (zN k) false 0) (SR9 l cs))
            ((Trip.runY ERok noSum_ok (Eq.mp (vcRi (slW 2 l.length) (zN k) (tob (slT l.length)) (.cells cs true) (rowW l) (Stops 3 .normal (fr12 (slW 2 l.length) (zN k) false 0) (SR9 l cs))) ⟨rfl, Wk.refl _ _ _⟩)).mono fun q hq => Stops.can hq) (fun fr' st' hq => Trip.less hq.2 (loopR hl)) (fun e fr' st' hne hq => absurd hq.1 hne)) (fun fr' st' hq => Trip.less hq.2 ?_) (fun e fr' st' hne hq => absurd hq.1 hne)
          have hb := Call1.mem (by kernel_rfl : _ = vcRd_s1 (tob (slT l.length)) (.cells cs true) (rowW l)) (busy_at (z := zN k) (S := SR9 l cs) (by kernel_rfl) (by kernel_rfl) hR h0 hl)
          refine (Trip.runY ERok (sum := smR (tabC [_])) (onlyC_ok (tabC_ok fun e he => by
            simp only [List.mem_cons, List.not_mem_nil, or_false] at he
            subst he; exact hb)) (Eq.mp (vcRd (tabC [_]) (slW 2 l.length) (zN k) (l.any (busyP (zN k))) l.length (tob (slT l.length)) (.cells cs true) (rowW l) (Stops 3 .normal (fr11 (slW 2 l.length) (zN k)) (SR9 l cs))) ⟨call_at (onlyC_at rfl (tabC_hd ..)), ?_, rfl, ?_⟩)).mono fun q hq => Stops.can hq
          · cases l.any (busyP (zN k)) <;> kernel_rfl
          · have hs : StP [0, 1, 2] (vcRd_s1 (tob (slT l.length)) (.cells cs true) (rowW l)) [(0, tob (slT l.length)), (1, .cells cs true), (2, rowW l)] := .cons 0 _ rfl (by kernel_rfl : _ = some (tob (slT l.length))) (.of rfl) (.came (hR.came true) rfl (by kernel_rfl) (.came rowW_came rfl (by kernel_rfl) .nil))
            exact Wk.heldX (kb := 3) [0, 1, 2] (by kernel_rfl) (by kernel_rfl) [0, 1, 4, 5] (by kernel_rfl) hs
        · obtain ⟨r1, r2, r3⟩ := r
          obtain ⟨h1, h2⟩ := hr
          simp only at h1
          subst h1
          exact ⟨rfl, h2⟩
      · refine (Trip.runY ERok noSum_ok (Eq.mp (vcRs (slW 2 l.length) (zN k) (tob (slT l.length)) (.cells cs true) (rowW l) (QO l cs k)) (.inl ⟨h67, rfl, ?_⟩))).mono fun q hq => hq.imp (fun h => ⟨h.1, h.2.can⟩) (fun h => ⟨h.1, h.2.can⟩)
        rw [zN_succ (by omega)]
        exact Wk.refl _ _ _
    · cases h
  · rcases hq with ⟨_, h, _⟩ | ⟨h1, h2, h3⟩
    · exact absurd h hne
    · exact .inr ⟨h1, h2, h3⟩
theorem shape11 : dropC 0 c11 = .seq (.seq (seqL (seqL (dropC 0 c11))) (.block 0 (.loop L11))) (dropC 1 c11) := by kernel_rfl
theorem loopO (hR : RowR cs l) (h0 : l ≠ []) (hl : l.length < 100000) : Trip Try.prog 3 none (.block 0 (.loop L11)) (fr11 (slW 2 l.length) (zN 0)) (SR9 l cs) (Stops 3 .normal (fr11 (slW 2 l.length) (zN 67)) (SR9 l cs)) := by
  refine Trip.block (Trip.loop (fun μ fr st => ∃ k, k ≤ 67 ∧ μ = 67 - k ∧ fr = fr11 (slW 2 l.length) (zN k) ∧ st = SR9 l cs) ?_ 67 ⟨0, by omega, by omega, rfl, rfl⟩)
  rintro μ fr st ⟨k, hk, rfl, rfl, rfl⟩
  refine (roundO hR h0 hl hk).mono ?_
  rintro ⟨e, fr', st'⟩ (⟨h2, h4, h5⟩ | ⟨h2, h4, h5⟩)
  · simp only at h4
    subst h4
    exact ⟨67 - (k + 1), _, _, by omega, h5, k + 1, by omega, rfl, rfl, rfl⟩
  · simp only at h4
    subst h4
    subst h2
    exact ⟨fun _ => ⟨rfl, h5⟩, fun h => absurd rfl h⟩
end
end Go.Proofs.Ytelehjeifhelnaa.ovp
end

section
open Go Go.Ax Go.Proofs
namespace Go.Proofs.Ytelehjeifhelnaa.ovp
set_option linter.unusedVariables false
section
variable {l : List RQ} {m b z : Int} {w : Bool} {V : AV} {R : AO} {S : ASt} {cs : List AV} {k i n f : Nat} {r : RQ}
theorem numV_len {l : List RQ} : (numV w l).length ≤ l.length := by
  have : ∀ (l : List RQ) (c : List Int), (l.foldl (stepN w) c).length ≤ c.length + l.length := fun l => by
    induction l with
    | nil => intro c; exact Nat.le_refl _
    | cons a l ih =>
      intro c
      have h1 := ih (stepN w c a)
      have h2 := stepN_len (w := w) (c := c) (r := a)
      show (l.foldl (stepN w) (stepN w c a)).length ≤ c.length + (l.length + 1)
      omega
  have h := this l []
  simpa [numV] using h
theorem body11 (hR : RowR cs l) (h0 : l ≠ []) (hl : l.length < 100000) : Trip Try.prog 3 none c11 { m := putArgs [p0, slW 2 l.length] 0 .e, n := 67, defs := [] } (SR9 l cs) fun r => r = (.ret, xFr [(4, .bool true)] 67, SR9 l cs) := by
  have e0 : c11 = .seq (seqL c11) (dropC 0 c11) := by kernel_rfl
  rw [e0]
  refine Trip.seqC ERok noSum_ok (n := 60) [0, 1, 4] KO99 (F := xFr [(0, p0), (1, slW 2 l.length), (4, .bool false)] 67) (S := SR9 l cs) (by kernel_rfl) ?_
  rw [shape11]
  refine Trip.seq (R := Stops 3 .normal (fr11 (slW 2 l.length) (zN 67)) (SR9 l cs)) (Trip.seqC ERok noSum_ok (n := 60) [0, 1, 4, 5] KO99 (F := fr11 (slW 2 l.length) (zN 0)) (S := SR9 l cs) (by kernel_rfl) (loopO hR h0 hl)) (fun fr' st' hq => ?_) (fun e fr' st' hne hq => absurd hq.1 hne)
  refine Trip.less hq.2 ?_
  have hn : ∀ w, (numV w l).length < 4611686018427387904 := fun w => by have := numV_len (w := w) (l := l); omega
  let O1 : AO := Bn (numV true l)
  let O2 : AO := Bn (numV false l)
  have t1 := Call1.mem (by kernel_rfl : _ = vcRz_s1 l.length (.cells cs true) (rowW l) O1) (those_at (w := true) (S := SR9 l cs) (by kernel_rfl) (by kernel_rfl) hR hl)
  have n1 := Call1.mem (by kernel_rfl : _ = vcRz_s2 l.length (.cells cs true) (rowW l) O1) (num_any (w := true) (r := 2) (c := .rest 4) (S := vcRz_s1 l.length (.cells cs true) (rowW l) O1) (by omega) h0 (rowAt (rw := true) (by kernel_rfl)))
  have s1 : Call1 Try.prog 39 [Vr 5 (numV true l), Vr 44 (numV true l)] (vcRz_s2 l.length (.cells cs true) (rowW l) O1) (.bool true, vcRz_s2 l.length (.cells cs true) (rowW l) O1) := same_any (hn true) (by kernel_rfl) (by kernel_rfl)
  have t2 := Call1.mem (by kernel_rfl : _ = vcRz_s3 l.length (.cells cs true) (rowW l) O1 O2) (those_at (w := false) (S := vcRz_s2 l.length (.cells cs true) (rowW l) O1) (by kernel_rfl) (by kernel_rfl) hR hl)
  have n2 := Call1.mem (by kernel_rfl : _ = vcRz_s4 l.length (.cells cs true) (rowW l) O1 O2) (num_any (w := false) (r := 2) (c := .rest 4) (S := vcRz_s3 l.length (.cells cs true) (rowW l) O1 O2) (by omega) h0 (rowAt (rw := true) (by kernel_rfl)))
  have s2 : Call1 Try.prog 39 [Vr 47 (numV false l), Vr 86 (numV false l)] (vcRz_s4 l.length (.cells cs true) (rowW l) O1 O2) (.bool true, vcRz_s4 l.length (.cells cs true) (rowW l) O1 O2) := same_any (hn false) (by kernel_rfl) (by kernel_rfl)
  refine Trip.endW (kf := [4]) (ko := KO99) (F := xFr [(4, .bool true)] 67) (S := vcRz_s4 l.length (.cells cs true) (rowW l) O1 O2) (Trip.runY ERok (sum := smR (tabC [_, _, _, _, _, _])) (onlyC_ok (tabC_ok fun e he => by
    simp only [List.mem_cons, List.not_mem_nil, or_false] at he
    rcases he with rfl | rfl | rfl | rfl | rfl | rfl
    · exact t1
    · exact n1
    · exact s1
    · exact t2
    · exact n2
    · exact s2)) (Eq.mp (vcRz (tabC [_, _, _, _, _, _]) l.length (zN 67) (.cells cs true) (rowW l) O1 O2 (Vr 5 (numV true l)) (Vr 44 (numV true l)) (Vr 47 (numV false l)) (Vr 86 (numV false l)) (fun q => q = (.ret, xFr [(4, .bool true)] 67, vcRz_s4 l.length (.cells cs true) (rowW l) O1 O2)))
      ⟨?_, call_at (onlyC_at rfl (tabC_hd ..)), call_at (onlyC_at rfl ((tabC_tlf rfl).trans (tabC_hd ..))), call_at (onlyC_at rfl ((tabC_tlf rfl).trans ((tabC_tlf rfl).trans (tabC_hd ..)))),
        call_at (onlyC_at rfl ((tabC_tln rfl).trans ((tabC_tlf rfl).trans ((tabC_tlf rfl).trans (tabC_hd ..))))), call_at (onlyC_at rfl ((tabC_tlf rfl).trans ((tabC_tln rfl).trans ((tabC_tlf rfl).trans ((tabC_tlf rfl).trans (tabC_hd ..)))))), call_at (onlyC_at rfl ((tabC_tlf rfl).trans ((tabC_tlf rfl).trans ((tabC_tln rfl).trans ((tabC_tlf rfl).trans ((tabC_tlf rfl).trans (tabC_hd ..))))))), rfl⟩)) ?_
  · have h : ∀ z : Int, aBin ER .eql 3 (.tmp 49) (.tmp 51) (.int .i64 z) (.int .i64 z) = some (.bool (eqF z z)) := fun z => by kernel_rfl
    rw [h, eqF_self]; rfl
  · have hs : StP [0, 1, 2] (vcRz_s4 l.length (.cells cs true) (rowW l) O1 O2) [(0, tob (slT l.length)), (1, .cells cs true), (2, rowW l)] := .cons 0 _ rfl (by kernel_rfl : _ = some (tob (slT l.length))) (.of rfl) (.came (hR.came true) rfl (by kernel_rfl) (.came rowW_came rfl (by kernel_rfl) .nil))
    exact Wk.heldX (kb := 3) [0, 1, 2] (by kernel_rfl) (by kernel_rfl) [4] (by kernel_rfl) hs
def SameQ (V : AV) (R : AO) (l : List RQ) (q : AV × ASt) : Prop := q.1 = .bool true ∧ q.2.h.get 0 = some (tob V) ∧ q.2.h.get 1 = some R ∧ q.2.h.get 2 = some (Ww l) ∧ q.2.next ≤ 70
theorem Vw_row (h : l ≠ []) (k : Nat) : Vw k l = slW k l.length ∧ Ww l = rowW l := by
  cases l with
  | nil => exact absurd rfl h
  | cons _ _ => exact ⟨rfl, rfl⟩
theorem sameRun (hT : TabV 1 l V R) (hl : l.length < 100000) (B : Prot) (w0 : World) (ι : Ren) (W : World) (args' : Array Value) (hB : ∀ i, ¬ B.rs i) (hsr : SR B w0 ι (S9 (tob V) R (Ww l)) W) (hv : VRs ι [p0, Vw 2 l] args') :
    (callFunc 11 args').run Try.prog W = .ok (.enter 11 args') W ∧ CallsIn Fence.wide 0 Try.prog 11 args' W fun e w' => ∃ v, SameQ V R l v ∧ Post B w0 ι v e w' := by
  by_cases h0 : l = []
  · subst h0
    cases hT with
    | row hR =>
      rename_i cs
      exact run_of_tm EAok noSum_ok (ko := [0, 1, 2]) (Q1 := SameQ (slT 0) (.cells cs true) []) (Eq.mp (vcR0 cs (SameQ (slT 0) (.cells cs true) [])) ⟨rfl, by kernel_rfl, by kernel_rfl, by kernel_rfl, Nat.le_refl _⟩) B w0 ι W args' hsr hv
    | nil => exact run_of_tm EAok noSum_ok (ko := [0, 1, 2]) (Q1 := SameQ nilA .dead []) (Eq.mp (vcR1 (SameQ nilA .dead [])) ⟨rfl, by kernel_rfl, by kernel_rfl, by kernel_rfl, Nat.le_refl _⟩) B w0 ι W args' hsr hv
    | zero => exact run_of_tm EAok noSum_ok (ko := [0, 1, 2]) (Q1 := SameQ zeroA zeroO []) (Eq.mp (vcR2 (SameQ zeroA zeroO [])) ⟨rfl, by kernel_rfl, by kernel_rfl, by kernel_rfl, Nat.le_refl _⟩) B w0 ι W args' hsr hv
  · obtain ⟨cs, hR, rfl, rfl⟩ := hT.row_of h0
    rw [(Vw_row h0 2).1] at hv
    rw [(Vw_row h0 2).2] at hsr
    refine Trip.call ERok (fn := Try.f11) (by kernel_rfl) (by kernel_rfl : Try.f11.body = some c11) (args := [p0, slW 2 l.length]) (R := SameQ (slT l.length) (.cells cs true) l) (by kernel_rfl) (Trip.mono (body11 hR h0 hl) fun r hr => ?_) B hB w0 ι W args' hsr hv
    subst hr
    exact ⟨.inr rfl, _, (by kernel_rfl : _ = some (.bool true, SR9 l cs)), rfl, by kernel_rfl, by kernel_rfl, by rw [(Vw_row h0 2).2]; kernel_rfl, by show 3 ≤ 70; decide⟩
theorem eqF_false {a b : Int} (h : a ≠ b) : eqF a b = false := by
  rw [eqF_eq]; simpa using h
theorem doTrip {kd : Int} (hT : TabV 1 l V R) (hl : l.length < 90000) : DoT (fr9a (Vw 2 l) kd m b w) (S9 (tob V) R (Ww l)) (stepT kd m b w l) := by
  by_cases h1 : kd = .ofNat 1
  · subst h1
    have e1 : stepT (.ofNat 1) m b w l = (bif ltF b (.ofNat 64) then (bif l.any (findP m) then l else plusQ l m b w) else l) := rfl
    rw [e1]
    cases hb : ltF b (.ofNat 64) with
    | false => exact do_arg hT (by omega) hb
    | true =>
      rw [cond_true]
      cases hm : l.any (findP m) with
      | true => exact do_exists hT (by omega) hb hm
      | false =>
        rw [cond_false]
        by_cases h0 : l = []
        · subst h0; exact do_come0 hT hb
        · rw [(Vw_row h0 2).1, (Vw_row h0 2).2]
          exact do_come1 hT h0 (by omega) hb hm
  · by_cases h2 : kd = .ofNat 2
    · subst h2
      have e1 : stepT (.ofNat 2) m b w l = (bif l.any (findP m) then (promP (dropQ l m)).1 else l) := rfl
      rw [e1]
      cases hm : l.any (findP m) with
      | false => exact do_none hT (by omega) hm
      | true =>
        rw [cond_true]
        have h0 : l ≠ [] := fun e => by rw [e] at hm; cases hm
        obtain ⟨i, hi⟩ : ∃ i, l.findIdx? (findP m) = some i := by
          cases e : l.findIdx? (findP m) with
          | some i => exact ⟨i, rfl⟩
          | none =>
            rw [List.findIdx?_eq_none_iff] at e
            rw [List.any_eq_true] at hm
            obtain ⟨x, hx, hp⟩ := hm
            rw [e x hx] at hp; cases hp
        have hil : i < l.length := by
          rw [List.findIdx?_eq_some_iff_getElem] at hi
          exact hi.1
        have hs : l = l.take i ++ l[i] :: l.drop (i + 1) := by rw [List.getElem_cons_drop, List.take_append_drop]
        have hil2 : (l.take i).length = i := by rw [List.length_take]; omega
        have hix : idxV (findP m) l = .ofNat (l.take i).length := by unfold idxV; rw [hi, hil2]
        rw [(Vw_row h0 2).1, (Vw_row h0 2).2]
        generalize l.take i = A at hs hix
        generalize l[i] = x at hs
        generalize l.drop (i + 1) = D at hs
        subst hs
        rw [dropQ_app hix]
        exact do_done hT hl hix
    · by_cases h3 : kd = .ofNat 3
      · subst h3
        have e1 : stepT (.ofNat 3) m b w l = [] := rfl
        rw [e1]
        by_cases h0 : l = []
        · subst h0; exact do_clear0 hT
        · rw [(Vw_row h0 2).1, (Vw_row h0 2).2]
          exact do_clear1 hT h0 hl
      · have e1 : stepT kd m b w l = l := by
          unfold stepT
          rw [eqF_false h1, eqF_false h2, eqF_false h3]; rfl
        rw [e1]
        exact do_other hT (by omega) (eqF_false h1) (eqF_false h2) (eqF_false h3)
theorem doRun {kd : Int} (hT : TabV 1 l V R) (hl : l.length < 90000) : ∃ V' N, TabV 3 (stepT kd m b w l) V' N ∧ ∀ (B : Prot) (w0 : World) (ι : Ren) (W : World) (args' : Array Value), (∀ i, ¬ B.rs i) → SR B w0 ι (S9 (tob V) R (Ww l)) W → VRs ι [p0, Vw 2 l, actV kd m b w] args' →
    (callFunc 9 args').run Try.prog W = .ok (.enter 9 args') W ∧ CallsIn Fence.wide 0 Try.prog 9 args' W fun e w' => ∃ v, v = (.tuple [Vw 4 (stepT kd m b w l), .bool true], finS (tob V') N (Ww (stepT kd m b w l))) ∧ Post B w0 ι v e w' := by
  obtain ⟨V', N, hT', hTr⟩ := doTrip (m := m) (b := b) (w := w) (kd := kd) hT hl
  refine ⟨V', N, hT', fun B w0 ι W args' hB hsr hv => ?_⟩
  refine Trip.call EOok (fn := Try.f9) (by kernel_rfl) (by kernel_rfl : Try.f9.body = some c9) (args := [p0, Vw 2 l, actV kd m b w]) (R := fun v => v = (.tuple [Vw 4 (stepT kd m b w l), .bool true], finS (tob V') N (Ww (stepT kd m b w l)))) (by kernel_rfl) (Trip.mono hTr fun r hr => ?_) B hB w0 ι W args' hsr hv
  subst hr
  exact ⟨.inr rfl, _, (by kernel_rfl : _ = some (.tuple [Vw 4 (stepT kd m b w l), .bool true], finS (tob V') N (Ww (stepT kd m b w l)))), rfl⟩
end
end Go.Proofs.Ytelehjeifhelnaa.ovp
end

section
open Go Go.Ax Go.Proofs
namespace Go.Ax
open Go.RowKit
set_option linter.unusedVariables false
def srcA (a k m : Nat) : Src := (List.range m).map fun j => bif Nat.blt j k then some (a + j, 0, true) else none
def gA (a k n : Nat) (j : Nat) : Nat := bif Nat.blt j k then a + j else n + j
def idsA (a k : Nat) : List Nat := (List.range k).map (a + ·)
theorem srcA_at {a k m j : Nat} (hm : j < m) (hk : j < k) : (srcA a k m)[j]? = some (some (a + j, 0, true)) := by
  unfold srcA
  have hb : Nat.blt j k = true := by rw [Nat.blt_eq]; exact hk
  rw [List.getElem?_map, List.getElem?_range hm]
  simp [hb]
theorem srcA_some {a k m j i o : Nat} {w : Bool} (h : (srcA a k m)[j]? = some (some (i, o, w))) : j < m ∧ j < k ∧ i = a + j ∧ o = 0 ∧ w = true := by
  unfold srcA at h
  rw [List.getElem?_map] at h
  cases e : (List.range m)[j]? with
  | none => rw [e] at h; cases h
  | some x =>
    obtain ⟨h2, h3⟩ := List.getElem?_eq_some_iff.1 e
    rw [List.length_range] at h2
    rw [List.getElem_range] at h3
    subst h3
    rw [e] at h
    cases hb : Nat.blt j k with
    | false => simp [hb] at h
    | true =>
      simp [hb] at h
      rw [Nat.blt_eq] at hb
      exact ⟨h2, hb, h.1.symm, h.2.1.symm, h.2.2⟩
theorem gS_srcA {a k m n : Nat} (hkm : k ≤ m) : gS (srcA a k m) n = gA a k n := by
  funext j
  unfold gA
  cases hb : Nat.blt j k with
  | true =>
    have hk : j < k := by rw [Nat.blt_eq] at hb; exact hb
    simp [gS, srcA_at (a := a) (show j < m by omega) hk]
  | false =>
    unfold gS
    split
    · rename_i i o hs
      obtain ⟨_, h2, _⟩ := srcA_some hs
      have : Nat.blt j k = true := by rw [Nat.blt_eq]; exact h2
      rw [this] at hb; cases hb
    · rfl
theorem renS_srcA {a k m j : Nat} {ι : Ren} (hm : j < m) (hk : j < k) : renS (srcA a k m) ι j = ι (a + j) := by
  unfold renS
  rw [srcA_at hm hk]
  show (match ι (a + j) with | some L => some (L.sh 0) | none => none) = ι (a + j)
  cases ι (a + j) <;> rfl
theorem renA_le {a k m : Nat} {ι : Ren} (hkm : k ≤ m) : (renR (idsA a k) ι).le (renS (srcA a k m) ι) := fun j L hL => by
  unfold renR idsA at hL
  rw [List.getElem?_map] at hL
  cases e : (List.range k)[j]? with
  | none => rw [e] at hL; cases hL
  | some x =>
    obtain ⟨h2, h3⟩ := List.getElem?_eq_some_iff.1 e
    rw [List.length_range] at h2
    rw [List.getElem_range] at h3
    subst h3
    rw [e] at hL
    rw [renS_srcA (by omega) h2]; exact hL
theorem Call1.sameAt {P : Program} {f : Nat} {args args1 : List AV} {S S1 : ASt} {Q1 : AV × ASt → Prop} (a k m : Nat) (hkm : k ≤ m)
    (hrun : ∀ B w0 ι w args', (∀ i, ¬ B.rs i) → SR B w0 ι S1 w → VRs ι args1 args' → (callFunc f args').run P w = .ok (.enter f args') w ∧ CallsIn Fence.wide 0 P f args' w fun e w' => ∃ v, Q1 v ∧ Post B w0 ι v e w')
    (hn : S1.next = m) (ha : a + k ≤ S.next) (hlive : ∀ j, j < k → ∃ x, S.h.get (a + j) = some x ∧ x ≠ .dead)
    (hobj : ∀ j x, S1.h.get j = some x → j < m ∧ (x ≠ .dead → j < k ∧ ∃ x', S.h.get (a + j) = some x' ∧ RenO (idsA a k) x' x))
    (hargs : args.map (renV (idsA a k)) = args1.map some)
    {outs : List (Nat × AO)} {n : Nat} {v : AV} (hback : ∀ q, Q1 q → BackV (gA a k S.next) q.1 v ∧ S.next + q.2.next ≤ n ∧ S.next + m ≤ n ∧
      (∀ p, p ∈ outs → (p.1 < k ∨ m ≤ p.1) ∧ S.next + p.1 < n ∧ (p.1 < k → ∃ x, S1.h.get p.1 = some x ∧ x.own = true) ∧ (p.2 = .dead ∨ p.2.own = true ∧ ∃ x, q.2.h.get p.1 = some x ∧ BackO (gA a k S.next) x p.2)) ∧
      ∀ j x, S1.h.get j = some x → x.own = true → ∃ p, p ∈ outs ∧ p.1 = j) : Call1 P f args S (v, outS (gA a k S.next) outs S n) := by
  have hl : (srcA a k m).length = m := by unfold srcA; rw [List.length_map, List.length_range]
  rw [← gS_srcA hkm]
  have hlen : args1.length = args.length := by
    have := congrArg List.length hargs
    simpa using this.symm
  refine Call1.frame (S1 := S1) (args1 := args1) hrun (src := srcA a k m) ⟨hn.trans hl.symm, fun j i o w h => ?_, fun j x hj => ?_, fun j x hj hd => ?_, fun j j' x i o w o' w' hj ho hs hs' => ?_⟩ (fun ι args' hv => ⟨hlen.trans hv.size, fun i y y' hy hy' => ?_⟩) fun q hq => ?_
  · obtain ⟨h1, h2, rfl, rfl, rfl⟩ := srcA_some h
    exact ⟨fun _ => rfl, hlive _ h2⟩
  · rw [hl]; exact (hobj j x hj).1
  · obtain ⟨h1, h2⟩ := hobj j x hj
    obtain ⟨h3, x', h4, h5⟩ := h2 hd
    exact ⟨a + j, 0, true, x', srcA_at h1 h3, h4, h5.1, fun h => ⟨by rw [← h5.2.1]; exact h, rfl⟩, fun ι L ob ho => (h5.2.2 ι L ob ho).mono (renA_le hkm)⟩
  · obtain ⟨_, _, rfl, _⟩ := srcA_some hs
    obtain ⟨_, _, h, _⟩ := srcA_some hs'
    omega
  · have hi : i < args.length := by rw [← hlen]; exact (List.getElem?_eq_some_iff.1 hy).1
    have h1 : (args.map (renV (idsA a k)))[i]? = (args1.map some)[i]? := by rw [hargs]
    rw [List.getElem?_map, List.getElem?_map, hy, List.getElem?_eq_getElem hi] at h1
    have h2 : renV (idsA a k) args[i] = some y := by simpa using h1
    exact ((hv.at_ i _ y' (List.getElem?_eq_getElem hi) hy').ren _ h2).mono (renA_le hkm)
  · obtain ⟨b1, b2, b3, b4, b5⟩ := hback q hq
    refine ⟨by rw [gS_srcA hkm]; exact b1, ⟨b2, by rw [hl]; exact b3⟩, fun p hp => ?_, b5⟩
    obtain ⟨c2, c1, c3, c4⟩ := b4 p hp
    rw [gS_srcA hkm]
    refine ⟨?_, fun h => c3 ?_, c4⟩
    · unfold gA
      cases hb : Nat.blt p.1 k with
      | true => rw [Nat.blt_eq] at hb; show a + p.1 < n; omega
      | false => exact c1
    · rw [hl] at h
      rcases c2 with c2 | c2
      · exact c2
      · omega
end Go.Ax
namespace Go.Proofs.Ytelehjeifhelnaa.ovp
section
variable {l : List RQ} {m b kd : Int} {w : Bool} {V : AV} {R : AO} {S : ASt} {a : Nat}
def shV (k : Nat) : AV → AV
  | .slice (some (_, o)) n c => .slice (some (k, o)) n c
  | v => v
theorem TabV.sh {k k' : Nat} (h : TabV k l V R) : TabV k' l (shV k' V) R := by
  cases h with
  | row h => exact .row h
  | nil => exact .nil
  | zero => exact .zero
theorem TabV.own {k : Nat} (h : TabV k l V R) : R = .dead ∨ R.own = true := by
  cases h with
  | row h => exact .inr rfl
  | nil => exact .inl rfl
  | zero => exact .inr rfl
theorem get3 {o0 o1 o2 : AO} {j : Nat} {x : AO} (h : (S9 o0 o1 o2).h.get j = some x) : (j = 0 ∧ x = o0) ∨ (j = 1 ∧ x = o1) ∨ (j = 2 ∧ x = o2) := by
  have hg : (S9 o0 o1 o2).h.get j = if j = 2 then some o2 else if j = 1 then some o1 else if j = 0 then some o0 else none := by
    show ((((T.e : T AO).set D 0 _).set D 1 _).set D 2 _).get j = _
    rw [T.get_set, T.get_set, T.get_set, T.get_e]
  rw [hg] at h
  by_cases e2 : j = 2
  · simp [e2] at h; exact .inr (.inr ⟨e2, h.symm⟩)
  · by_cases e1 : j = 1
    · simp [e1] at h; exact .inr (.inl ⟨e1, h.symm⟩)
    · by_cases e : j = 0
      · simp [e] at h; exact .inl ⟨e, h.symm⟩
      · simp [e2, e1, e] at h
inductive Alive (a : Nat) (l : List RQ) (V : AV) (R : AO) : Nat → Prop
  | one (h1 : l = []) (h2 : V = nilA) (h3 : R = .dead) : Alive a l V R 1
  | two (cs : List AV) (n : Nat) (c : Cap) (h1 : l = []) (h2 : V = .slice (some (a + 1, 0)) n c) (h3 : R = .cells cs true) (hc : ∀ x, x ∈ cs → refsV 0 x) : Alive a l V R 2
  | three (cs : List AV) (n : Nat) (c : Cap) (h1 : l ≠ []) (h2 : V = .slice (some (a + 1, 0)) n c) (h3 : R = .cells cs true) (hc : ∀ x, x ∈ cs → refsV 0 x) : Alive a l V R 3
theorem TabV.alive (h : TabV (a + 1) l V R) : ∃ k, Alive a l V R k := by
  cases h with
  | row h =>
    by_cases h0 : l = []
    · exact ⟨2, .two _ _ _ h0 rfl rfl h.refs⟩
    · exact ⟨3, .three _ _ _ h0 rfl rfl h.refs⟩
  | nil => exact ⟨1, .one rfl rfl rfl⟩
  | zero => exact ⟨2, .two _ _ _ rfl rfl rfl fun c hc => by cases hc⟩
theorem tab_frame {f : Nat} {ex : List AV} {Q1 : AV × ASt → Prop} (ha3 : a = 3 ∨ a = 6) (ha : a + 3 ≤ S.next) (g0 : S.h.get a = some (tob V)) (g1 : S.h.get (a + 1) = some R) (g2 : S.h.get (a + 2) = some (Ww l)) (hex2 : ∀ ids, ex.map (renV ids) = ex.map some)
    (hrun : ∀ B w0 ι w args', (∀ i, ¬ B.rs i) → SR B w0 ι (S9 (tob (shV 1 V)) R (Ww l)) w → VRs ι (p0 :: Vw 2 l :: ex) args' → (callFunc f args').run Try.prog w = .ok (.enter f args') w ∧ CallsIn Fence.wide 0 Try.prog f args' w fun e w' => ∃ v, Q1 v ∧ Post B w0 ι v e w')
    {k : Nat} (hk : Alive a l V R k) {outs : List (Nat × AO)} {n : Nat} {v : AV} (ho : ∀ j, j < k → ∃ p, p ∈ outs ∧ p.1 = j) (hn : S.next + 3 ≤ n)
    (hback : ∀ q, Q1 q → BackV (gA a k S.next) q.1 v ∧ S.next + q.2.next ≤ n ∧ ∀ p, p ∈ outs → (p.1 < k ∨ 3 ≤ p.1) ∧ S.next + p.1 < n ∧ (p.2 = .dead ∨ p.2.own = true ∧ ∃ x, q.2.h.get p.1 = some x ∧ BackO (gA a k S.next) x p.2)) :
    Call1 Try.prog f (.ptr (some (a, 0)) :: Vw (a + 2) l :: ex) S (v, outS (gA a k S.next) outs S n) := by
  have s0 : ∀ {T R W : AO}, (S9 T R W).h.get 0 = some T := fun {T R W} => by kernel_rfl
  have s1 : ∀ {T R W : AO}, (S9 T R W).h.get 1 = some R := fun {T R W} => by kernel_rfl
  have s2 : ∀ {T R W : AO}, (S9 T R W).h.get 2 = some W := fun {T R W} => by kernel_rfl
  have hp : ∀ k, k = 1 ∨ k = 2 ∨ k = 3 → renV (idsA a k) (.ptr (some (a, 0))) = some p0 := fun k hk2 => by
    rcases ha3 with rfl | rfl <;> rcases hk2 with rfl | rfl | rfl <;> kernel_rfl
  have hsl : ∀ {n : Nat}, renV (idsA a 3) (slW (a + 2) n) = some (slW 2 n) := fun {n} => by
    rcases ha3 with rfl | rfl <;> kernel_rfl
  have ht1 : renO (idsA a 1) (tob nilA) = some (tob nilA) := by rcases ha3 with rfl | rfl <;> kernel_rfl
  have ht2 : ∀ {k n : Nat} {c : Cap}, k = 2 ∨ k = 3 → renO (idsA a k) (tob (.slice (some (a + 1, 0)) n c)) = some (tob (.slice (some (1, 0)) n c)) := fun {k n c} hk2 => by
    rcases ha3 with rfl | rfl <;> rcases hk2 with rfl | rfl <;> kernel_rfl
  have hWn : l ≠ [] → Ww l = rowW l := fun h => (Vw_row h 2).2
  cases hk with
  | one h1 h2 h3 =>
    subst h1; subst h2; subst h3
    refine Call1.sameAt (S1 := S9 (tob nilA) .dead .dead) (args1 := p0 :: nilA :: ex) a 1 3 (by decide) hrun rfl (by omega) (fun j hj => ?_) (fun j x hj => ?_) ?_ fun q hq => ?_
    · match j, hj with
      | 0, _ => exact ⟨_, g0, by simp [tob]⟩
    · rcases get3 hj with ⟨rfl, rfl⟩ | ⟨rfl, rfl⟩ | ⟨rfl, rfl⟩
      · exact ⟨by decide, fun _ => ⟨by decide, _, g0, .of ht1⟩⟩
      · exact ⟨by decide, fun h => absurd rfl h⟩
      · exact ⟨by decide, fun h => absurd rfl h⟩
    · rw [List.map_cons, List.map_cons, hp 1 (.inl rfl), hex2]; rfl
    · obtain ⟨b1, b2, b3⟩ := hback q hq
      refine ⟨b1, b2, hn, fun p hp => ?_, fun j x hj ho' => ?_⟩
      · obtain ⟨c1, c2, c3⟩ := b3 p hp
        refine ⟨c1, c2, fun h => ⟨tob nilA, ?_, rfl⟩, c3⟩
        have : p.1 = 0 := by omega
        rw [this]; exact s0
      · rcases get3 hj with ⟨rfl, rfl⟩ | ⟨rfl, rfl⟩ | ⟨rfl, rfl⟩
        · exact ho 0 (by decide)
        · cases ho'
        · cases ho'
  | two cs n0 c h1 h2 h3 hc =>
    subst h1; subst h2; subst h3
    refine Call1.sameAt (S1 := S9 (tob (.slice (some (1, 0)) n0 c)) (.cells cs true) .dead) (args1 := p0 :: nilA :: ex) a 2 3 (by decide) hrun rfl (by omega) (fun j hj => ?_) (fun j x hj => ?_) ?_ fun q hq => ?_
    · match j, hj with
      | 0, _ => exact ⟨_, g0, by simp [tob]⟩
      | 1, _ => exact ⟨_, g1, by simp⟩
    · rcases get3 hj with ⟨rfl, rfl⟩ | ⟨rfl, rfl⟩ | ⟨rfl, rfl⟩
      · exact ⟨by decide, fun _ => ⟨by decide, _, g0, .of (ht2 (.inl rfl))⟩⟩
      · exact ⟨by decide, fun _ => ⟨by decide, _, g1, .row hc⟩⟩
      · exact ⟨by decide, fun h => absurd rfl h⟩
    · rw [List.map_cons, List.map_cons, hp 2 (.inr (.inl rfl)), hex2]; rfl
    · obtain ⟨b1, b2, b3⟩ := hback q hq
      refine ⟨b1, b2, hn, fun p hp => ?_, fun j x hj ho' => ?_⟩
      · obtain ⟨c1, c2, c3⟩ := b3 p hp
        refine ⟨c1, c2, fun h => ?_, c3⟩
        rcases (by omega : p.1 = 0 ∨ p.1 = 1) with e | e <;> rw [e]
        · exact ⟨_, s0, rfl⟩
        · exact ⟨_, s1, rfl⟩
      · rcases get3 hj with ⟨rfl, rfl⟩ | ⟨rfl, rfl⟩ | ⟨rfl, rfl⟩
        · exact ho 0 (by decide)
        · exact ho 1 (by decide)
        · cases ho'
  | three cs n0 c h1 h2 h3 hc =>
    subst h2; subst h3
    rw [hWn h1] at g2 hrun
    rw [(Vw_row h1 2).1] at hrun
    rw [(Vw_row h1 (a + 2)).1]
    refine Call1.sameAt (S1 := S9 (tob (.slice (some (1, 0)) n0 c)) (.cells cs true) (rowW l)) (args1 := p0 :: slW 2 l.length :: ex) a 3 3 (by decide) hrun rfl (by omega) (fun j hj => ?_) (fun j x hj => ?_) ?_ fun q hq => ?_
    · match j, hj with
      | 0, _ => exact ⟨_, g0, by simp [tob]⟩
      | 1, _ => exact ⟨_, g1, by simp⟩
      | 2, _ => exact ⟨_, g2, by simp [rowW]⟩
    · rcases get3 hj with ⟨rfl, rfl⟩ | ⟨rfl, rfl⟩ | ⟨rfl, rfl⟩
      · exact ⟨by decide, fun _ => ⟨by decide, _, g0, .of (ht2 (.inr rfl))⟩⟩
      · exact ⟨by decide, fun _ => ⟨by decide, _, g1, .row hc⟩⟩
      · exact ⟨by decide, fun _ => ⟨by decide, _, g2, .row enc4_refs⟩⟩
    · rw [List.map_cons, List.map_cons, hp 3 (.inr (.inr rfl)), hsl, hex2]; rfl
    · obtain ⟨b1, b2, b3⟩ := hback q hq
      refine ⟨b1, b2, hn, fun p hp => ?_, fun j x hj ho' => ?_⟩
      · obtain ⟨c1, c2, c3⟩ := b3 p hp
        refine ⟨c1, c2, fun h => ?_, c3⟩
        rcases (by omega : p.1 = 0 ∨ p.1 = 1 ∨ p.1 = 2) with e | e | e <;> rw [e]
        · exact ⟨_, s0, rfl⟩
        · exact ⟨_, s1, rfl⟩
        · exact ⟨_, s2, rfl⟩
      · rcases get3 hj with ⟨rfl, rfl⟩ | ⟨rfl, rfl⟩ | ⟨rfl, rfl⟩
        · exact ho 0 (by decide)
        · exact ho 1 (by decide)
        · exact ho 2 (by decide)
noncomputable def aftDo (a : Nat) (T N W : AO) (S : ASt) : ASt := { h := ((((S.h.set D (a + 1) .dead).set D (a + 2) .dead).set D a T).set D (S.next + 3) N).set D (S.next + 4) W, next := S.next + 10 }
theorem do_law (ha3 : a = 3 ∨ a = 6) (hT : TabV (a + 1) l V R) (hl : l.length < 90000) (ha : a + 3 ≤ S.next) (g0 : S.h.get a = some (tob V)) (g1 : S.h.get (a + 1) = some R) (g2 : S.h.get (a + 2) = some (Ww l))
    (e1 : T.set D S.h (a + 1) R = S.h) (e2 : T.set D (T.set D S.h (a + 1) .dead) (a + 2) (Ww l) = T.set D S.h (a + 1) .dead) :
    ∃ V' N, TabV (S.next + 3) (stepT kd m b w l) V' N ∧ Call1 Try.prog 9 [.ptr (some (a, 0)), Vw (a + 2) l, actV kd m b w] S (.tuple [Vw (S.next + 4) (stepT kd m b w l), .bool true], aftDo a (tob V') N (Ww (stepT kd m b w l)) S) := by
  obtain ⟨k, hk⟩ := hT.alive
  have hT1 : TabV 1 l (shV 1 V) R := hT.sh
  have hgV : ∀ {k j : Nat}, k ≤ 3 → 3 ≤ j → gA a k S.next j = S.next + j := fun {k j} h1 h2 => by
    unfold gA
    cases h : Nat.blt j k with
    | false => rfl
    | true => rw [Nat.blt_eq] at h; omega
  have hk3 : k ≤ 3 := by cases hk <;> decide
  have key : ∀ {L : List RQ} {Vs : AV} {N : AO}, TabV 3 L Vs N → BackO (gA a k S.next) (tob Vs) (tob (shV (S.next + 3) Vs)) := fun {L Vs N} h => by
    cases h with
    | row h => exact .cells (by show [mapV _ _, mapV _ _] = _; simp only [mapV, slW, hgV hk3 (Nat.le_refl 3)]; rfl)
    | nil => exact .cells rfl
    | zero => exact .cells (by show [mapV _ _, mapV _ _] = _; simp only [mapV, hgV hk3 (Nat.le_refl 3)]; rfl)
  obtain ⟨Vs, N, hT3, hrun⟩ := doRun (m := m) (b := b) (w := w) (kd := kd) hT1 hl
  have f0 : ∀ {T N W : AO}, (finS T N W).h.get 0 = some T := fun {T N W} => by kernel_rfl
  have f3 : ∀ {T N W : AO}, (finS T N W).h.get 3 = some N := fun {T N W} => by kernel_rfl
  have f4 : ∀ {T N W : AO}, (finS T N W).h.get 4 = some W := fun {T N W} => by kernel_rfl
  have came : ∀ {o : AO} {g : Nat → Nat} {j : Nat} {st : ASt}, Came o → o = .dead ∨ o.own = true → st.h.get j = some o → (o = .dead ∨ o.own = true ∧ ∃ x, st.h.get j = some x ∧ BackO g x o) := fun {o g j st} hc hd hs => by
    rcases hd with h | h
    · exact .inl h
    · rcases hc with rfl | ⟨cs, rw, rfl, hc⟩
      · exact .inl rfl
      · exact .inr ⟨h, _, hs, .row hc⟩
  have ownN : N = .dead ∨ N.own = true := hT3.own
  have ownW : ∀ X : List RQ, Ww X = .dead ∨ (Ww X).own = true := fun X => by
    cases X with
    | nil => exact .inl rfl
    | cons _ _ => exact .inr rfl
  have hv : BackV (gA a k S.next) (.tuple [Vw 4 (stepT kd m b w l), .bool true]) (.tuple [Vw (S.next + 4) (stepT kd m b w l), .bool true]) := BackV.eq (by
    show AV.tuple [mapV _ _, .bool true] = _
    cases stepT kd m b w l with
    | nil => rfl
    | cons x X => simp only [Vw, List.isEmpty_cons, cond_false, slW, mapV, hgV hk3 (show 3 ≤ 4 by decide)])
  have hex2 : ∀ ids, [actV kd m b w].map (renV ids) = [actV kd m b w].map some := fun ids => rfl
  refine ⟨shV (S.next + 3) Vs, N, hT3.sh, ?_⟩
  have gk : ∀ {j : Nat}, gA a k S.next j = (bif Nat.blt j k then a + j else S.next + j) := rfl
  cases hk with
  | one h1 h2 h3 =>
    have h := tab_frame (S := S) (ex := [actV kd m b w]) ha3 ha g0 g1 g2 hex2 hrun (.one h1 h2 h3) (outs := [(0, tob (shV (S.next + 3) Vs)), (3, N), (4, Ww (stepT kd m b w l))]) (n := S.next + 10) (fun j hj => ⟨_, List.mem_cons_self, by omega⟩) (by omega) (fun q hq => by
      subst hq
      refine ⟨hv, by show S.next + 5 ≤ S.next + 10; omega, fun p hp => ?_⟩
      simp only [List.mem_cons, List.not_mem_nil, or_false] at hp
      rcases hp with rfl | rfl | rfl
      · exact ⟨.inl (by show 0 < 1; decide), by show S.next + 0 < _; omega, .inr ⟨rfl, _, f0, key hT3⟩⟩
      · exact ⟨.inr (by show 3 ≤ 3; decide), by show S.next + 3 < _; omega, came hT3.came ownN f3⟩
      · exact ⟨.inr (by show 3 ≤ 4; decide), by show S.next + 4 < _; omega, came (Ww_came _) (ownW _) f4⟩)
    refine Call1.mem ?_ h
    show ASt.mk ((((S.h.set D a _).set D (S.next + 3) _).set D (S.next + 4) _)) _ = _
    have hW : Ww l = .dead := by rw [h1]; rfl
    unfold aftDo
    rw [hW] at e2
    rw [e2, ← h3, e1]
  | two cs n0 c h1 h2 h3 hc =>
    have h := tab_frame (S := S) (ex := [actV kd m b w]) ha3 ha g0 g1 g2 hex2 hrun (.two cs n0 c h1 h2 h3 hc) (outs := [(1, .dead), (0, tob (shV (S.next + 3) Vs)), (3, N), (4, Ww (stepT kd m b w l))]) (n := S.next + 10) (fun j hj => by
      rcases (by omega : j = 0 ∨ j = 1) with rfl | rfl
      · exact ⟨_, List.mem_cons_of_mem _ List.mem_cons_self, rfl⟩
      · exact ⟨_, List.mem_cons_self, rfl⟩) (by omega) (fun q hq => by
      subst hq
      refine ⟨hv, by show S.next + 5 ≤ S.next + 10; omega, fun p hp => ?_⟩
      simp only [List.mem_cons, List.not_mem_nil, or_false] at hp
      rcases hp with rfl | rfl | rfl | rfl
      · exact ⟨.inl (by show 1 < 2; decide), by show S.next + 1 < _; omega, .inl rfl⟩
      · exact ⟨.inl (by show 0 < 2; decide), by show S.next + 0 < _; omega, .inr ⟨rfl, _, f0, key hT3⟩⟩
      · exact ⟨.inr (by show 3 ≤ 3; decide), by show S.next + 3 < _; omega, came hT3.came ownN f3⟩
      · exact ⟨.inr (by show 3 ≤ 4; decide), by show S.next + 4 < _; omega, came (Ww_came _) (ownW _) f4⟩)
    refine Call1.mem ?_ h
    show ASt.mk (((((S.h.set D (a + 1) _).set D a _).set D (S.next + 3) _).set D (S.next + 4) _)) _ = _
    have hW : Ww l = .dead := by rw [h1]; rfl
    unfold aftDo
    rw [hW] at e2
    rw [e2]
  | three cs n0 c h1 h2 h3 hc =>
    have h := tab_frame (S := S) (ex := [actV kd m b w]) ha3 ha g0 g1 g2 hex2 hrun (.three cs n0 c h1 h2 h3 hc) (outs := [(1, .dead), (2, .dead), (0, tob (shV (S.next + 3) Vs)), (3, N), (4, Ww (stepT kd m b w l))]) (n := S.next + 10) (fun j hj => by
      rcases (by omega : j = 0 ∨ j = 1 ∨ j = 2) with rfl | rfl | rfl
      · exact ⟨_, List.mem_cons_of_mem _ (List.mem_cons_of_mem _ List.mem_cons_self), rfl⟩
      · exact ⟨_, List.mem_cons_self, rfl⟩
      · exact ⟨_, List.mem_cons_of_mem _ List.mem_cons_self, rfl⟩) (by omega) (fun q hq => by
      subst hq
      refine ⟨hv, by show S.next + 5 ≤ S.next + 10; omega, fun p hp => ?_⟩
      simp only [List.mem_cons, List.not_mem_nil, or_false] at hp
      rcases hp with rfl | rfl | rfl | rfl | rfl
      · exact ⟨.inl (by show 1 < 3; decide), by show S.next + 1 < _; omega, .inl rfl⟩
      · exact ⟨.inl (by show 2 < 3; decide), by show S.next + 2 < _; omega, .inl rfl⟩
      · exact ⟨.inl (by show 0 < 3; decide), by show S.next + 0 < _; omega, .inr ⟨rfl, _, f0, key hT3⟩⟩
      · exact ⟨.inr (by show 3 ≤ 3; decide), by show S.next + 3 < _; omega, came hT3.came ownN f3⟩
      · exact ⟨.inr (by show 3 ≤ 4; decide), by show S.next + 4 < _; omega, came (Ww_came _) (ownW _) f4⟩)
    exact Call1.mem rfl h
end
end Go.Proofs.Ytelehjeifhelnaa.ovp
end
