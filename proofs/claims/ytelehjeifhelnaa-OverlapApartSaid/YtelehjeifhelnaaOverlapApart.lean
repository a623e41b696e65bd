/-
  PROVED HERE: 'Rows.OverlapApartSaid': for every three lists of acts the call of the law's function returns true, and the lists read as they did. No condition. THE WALK is a run of the function's text in an abstract machine (the texts WaA to WaF show that it is sound), with the lists open: loops by invariants, the table's and the document's functions by contracts (WbA to WbF).
-/
import Derived.Test.YtelehjeifhelnaaWbF
import Derived.WalkKit
import Derived.ProofKit
import Derived.OpenShut
import Derived.ShutString
import Derived.ChangeOld
import Derived.ChangeSlices
import Derived.Below
import Derived.Deep.SlicePairs
import Derived.Deep.Grids
import Derived.WideKeyArgs
section
open Go Go.Ax Go.Proofs
namespace Go.Proofs.Ytelehjeifhelnaa.ovp
set_option linter.unusedVariables false
noncomputable def EL : Env := envEx Try.prog [0, 3, 4, 5, 22, 24, 27, 28, 30, 32, 35, 37, 39, 40, 42, 43, 77, 81, 84] [(3, Try.f3), (8, Try.f8), (10, Try.f10), (40, Try.f40), (41, Try.f41)] []
noncomputable def smL (q : CallT) : CallT := onlyC [7, 9, 11] q
noncomputable def c3 : Code := Option.getD Try.f3.body .skip
noncomputable def F3 (vA vB vC : AV) : AFr := { m := putArgs [vA, vB, vC] 0 .e, n := 102, defs := [] }
noncomputable def S3o (o0 o1 o2 : AO) : ASt := mkSt [(0, o0), (1, o1), (2, o2)] 3
noncomputable def SL1 (o0 o1 o2 T R W : AO) : ASt := mkSt [(0, o0), (1, o1), (2, o2), (3, T), (4, R), (5, W)] 6
noncomputable def SL2 (o0 o1 o2 T R W T2 R2 W2 : AO) : ASt := mkSt [(0, o0), (1, o1), (2, o2), (3, T), (4, R), (5, W), (6, T2), (7, R2), (8, W2)] 9
noncomputable def L3a : Code := lopB (blkB (seqR (seqL (dropC 3 c3))))
noncomputable def L3b : Code := lopB (blkB (seqR (seqL (dropC 5 c3))))
noncomputable def L3c : Code := lopB (blkB (seqR (seqL (dropC 6 c3))))
def pN (k : Nat) : AV := .ptr (some (k, 0))
noncomputable def fr3a (vA vB vC V : AV) (i : Nat) : AFr := xFr [(0, vA), (1, vB), (2, vC), (6, .bool false), (7, pN 3), (8, V), (9, nI i)] 102
noncomputable def fr3m (vA vB vC V V2 : AV) : AFr := xFr [(0, vA), (1, vB), (2, vC), (6, .bool false), (7, pN 3), (8, V), (10, pN 6), (11, V2)] 102
noncomputable def fr3b (vA vB vC V V2 : AV) (i : Nat) : AFr := xFr [(0, vA), (1, vB), (2, vC), (6, .bool false), (7, pN 3), (8, V), (10, pN 6), (11, V2), (12, nI i)] 102
noncomputable def fr3c (vA vB vC V V2 : AV) (i : Nat) : AFr := xFr [(0, vA), (1, vB), (2, vC), (6, .bool false), (7, pN 3), (8, V), (10, pN 6), (11, V2), (15, nI i)] 102
noncomputable def tLa (q : CallT) (vA vB vC : AV) (n0 n1 n2 : Nat) (o0 o1 o2 : AO) : Tr (Exit × AFr × ASt) := (TM EL (smL q) [] fl0 60).ex ⟨[19, 23, 28, 31], [], [20, 24, 29], []⟩ none (preC 3 c3) (F3 vA vB vC) (S3o o0 o1 o2)
noncomputable def tLb (q : CallT) (vA vB vC V V' : AV) (n i : Nat) (kd m b : Int) (w : Bool) (o0 o1 o2 T R W T1 N W1 : AO) : Tr (Exit × AFr × ASt) := (TM EL (smL q) [] fl0 60).ex ⟨[35, 44, 45, 46], [], [36], []⟩ none L3a (fr3a vA vB vC V i) (SL1 o0 o1 o2 T R W)
-- Copy, and the list's
noncomputable def tLc (vA vB vC : AV) (n i : Nat) (o0 o1 o2 R W N1 W1 : AO) : Tr (Exit × AFr × ASt) := (TM EL noSum [(10, ⟨[], [10], [], []⟩), (41, ⟨[7], [], [], []⟩)] fl0 60).ex ⟨[52], [50], [], []⟩ none (preC 0 (dropC 3 (dropC 0 c3))) (fr3a vA vB vC (slW 5 n) i) (SL1 o0 o1 o2 (tob (slW 4 n)) R W)
noncomputable def tLd (vA vB vC : AV) (i : Nat) (o0 o1 o2 R : AO) : Tr (Exit × AFr × ASt) := (TM EL noSum [(10, ⟨[], [10], [], []⟩), (41, ⟨[7], [], [], []⟩)] fl0 60).ex ⟨[], [50], [], []⟩ none (preC 0 (dropC 3 (dropC 0 c3))) (fr3a vA vB vC nilA i) (SL1 o0 o1 o2 (tob (slW 4 0)) R .dead)
noncomputable def tLe (vA vB vC : AV) (i : Nat) (o0 o1 o2 R : AO) : Tr (Exit × AFr × ASt) := (TM EL noSum [(10, ⟨[], [10], [], []⟩), (41, ⟨[7], [], [], []⟩)] fl0 60).ex ⟨[], [50], [], []⟩ none (preC 0 (dropC 3 (dropC 0 c3))) (fr3a vA vB vC nilA i) (SL1 o0 o1 o2 (tob (.slice (some (4, 0)) 0 (.known 0))) R .dead)
noncomputable def tLf (vA vB vC : AV) (i : Nat) (o0 o1 o2 : AO) : Tr (Exit × AFr × ASt) := (TM EL noSum [(10, ⟨[], [10], [], []⟩), (41, fl0)] fl0 60).ex ⟨[], [50], [], []⟩ none (preC 0 (dropC 3 (dropC 0 c3))) (fr3a vA vB vC nilA i) (SL1 o0 o1 o2 (tob nilA) .dead .dead)
noncomputable def tLg (q : CallT) (vA vB vC V V' V2 : AV) (n i : Nat) (kd m b : Int) (w : Bool) (o0 o1 o2 T R W T1 N W1 T2 R2 W2 : AO) : Tr (Exit × AFr × ASt) := (TM EL (smL q) [] fl0 60).ex ⟨[55, 64, 65, 66], [], [56], []⟩ none L3b (fr3b vA vB vC V V2 i) (SL2 o0 o1 o2 T R W T2 R2 W2)
noncomputable def tLh (q : CallT) (vA vB vC V V' V2 : AV) (n i : Nat) (kd m b : Int) (w : Bool) (o0 o1 o2 T R W T1 N W1 T2 R2 W2 : AO) : Tr (Exit × AFr × ASt) := (TM EL (smL q) [] fl0 60).ex ⟨[74, 83, 84, 85], [], [75], []⟩ none L3c (fr3c vA vB vC V V2 i) (SL2 o0 o1 o2 T R W T2 R2 W2)
noncomputable def tLz (q : CallT) (vA vB vC V V2 : AV) (i : Nat) (o0 o1 o2 T R W T2 R2 W2 : AO) : Tr (Exit × AFr × ASt) := (TM EL (smL q) [] fl0 60).ex ⟨[93, 97, 100], [], [], []⟩ none (dropC 7 c3) (fr3c vA vB vC V V2 i) (SL2 o0 o1 o2 T R W T2 R2 W2)
noncomputable def vcLa_s0 (o0 : AO) (o1 : AO) (o2 : AO) : ASt := mkSt [(0, o0), (1, o1), (2, o2)] 3
noncomputable def vcLa_s1 (o0 : AO) (o1 : AO) (o2 : AO) : ASt := mkSt [(0, o0), (1, o1), (2, o2), (3, .cells [.bool true, .slice none 0 (.known 0)] true)] 4
theorem vcLa (q : CallT) (vA : AV) (vB : AV) (vC : AV) (n0 : Nat) (n1 : Nat) (n2 : Nat) (o0 : AO) (o1 : AO) (o2 : AO) (Q : Exit × AFr × ASt → Prop) (Q2 : Exit × Option AV → Prop) :
  (aBuiltinM EL .len [22] [vA] (vcLa_s0 o0 o1 o2) = some (.int .i64 (.ofNat n0), vcLa_s0 o0 o1 o2) ∧ ifB (ltF (.ofNat 25) (.ofNat n0)) ((M EL (drawA EL) (smL q) 54).call 7 [] (vcLa_s0 o0 o1 o2) = some (.bool true, vcLa_s0 o0 o1 o2) ∧ Q2 (.ret, some (.bool true))) (aBuiltinM EL .len [22] [vB] (vcLa_s0 o0 o1 o2) = some (.int .i64 (.ofNat n1), vcLa_s0 o0 o1 o2) ∧ ifB (ltF (.ofNat 25) (.ofNat n1)) ((M EL (drawA EL) (smL q) 54).call 7 [] (vcLa_s0 o0 o1 o2) = some (.bool true, vcLa_s0 o0 o1 o2) ∧ Q2 (.ret, some (.bool true))) (aBuiltinM EL .len [22] [vC] (vcLa_s0 o0 o1 o2) = some (.int .i64 (.ofNat n2), vcLa_s0 o0 o1 o2) ∧ ifB (ltF (.ofNat 25) (.ofNat n2)) ((M EL (drawA EL) (smL q) 54).call 7 [] (vcLa_s0 o0 o1 o2) = some (.bool true, vcLa_s0 o0 o1 o2) ∧ Q2 (.ret, some (.bool true))) (Q (.normal, xFr [(0, vA), (1, vB), (2, vC), (6, .bool false), (7, .ptr (some (3, 0))), (8, .slice none 0 (.known 0))] 102, vcLa_s1 o0 o1 o2))))) =
  (tLa q vA vB vC n0 n1 n2 o0 o1 o2).allY (mixQ EL Try.f3 [0, 1, 2, 6, 7, 8] [0, 1, 2, 3, 4, 5, 6, 7, 8, 9, 10, 11, 12, 13, 14, 15, 16, 17, 18, 19, 20, 21, 22, 23, 24, 25, 26, 27, 28, 29, 30, 31, 32, 33, 34, 35, 36, 37, 38, 39, 40, 41, 42, 43, 44, 45, 46, 47, 48, 49, 50, 51, 52, 53, 54, 55, 56, 57, 58, 59, 60, 61, 62, 63, 64, 65, 66, 67, 68, 69, 70, 71, 72, 73, 74, 75, 76, 77, 78, 79, 80, 81, 82, 83, 84, 85, 86, 87, 88, 89, 90, 91, 92, 93, 94, 95, 96, 97, 98, 99] Q Q2) (.v (.int .i64 (.ofNat n0), vcLa_s0 o0 o1 o2) (.b (.v (.bool true, vcLa_s0 o0 o1 o2) .nil) (.v (.int .i64 (.ofNat n1), vcLa_s0 o0 o1 o2) (.b (.v (.bool true, vcLa_s0 o0 o1 o2) .nil) (.v (.int .i64 (.ofNat n2), vcLa_s0 o0 o1 o2) (.b (.v (.bool true, vcLa_s0 o0 o1 o2) .nil) .nil)))))) := by kernel_rfl
noncomputable def vcLb_s0 (o0 : AO) (o1 : AO) (o2 : AO) (T : AO) (R : AO) (W : AO) : ASt := mkSt [(0, o0), (1, o1), (2, o2), (3, T), (4, R), (5, W)] 6
noncomputable def vcLb_s1 (o0 : AO) (o1 : AO) (o2 : AO) (T1 : AO) (N : AO) (W1 : AO) : ASt := mkSt [(0, o0), (1, o1), (2, o2), (3, T1), (4, .dead), (5, .dead), (9, N), (10, W1)] 16
theorem vcLb (q : CallT) (vA : AV) (vB : AV) (vC : AV) (V : AV) (V' : AV) (n : Nat) (i : Nat) (kd : Int) (m : Int) (b : Int) (w : Bool) (o0 : AO) (o1 : AO) (o2 : AO) (T : AO) (R : AO) (W : AO) (T1 : AO) (N : AO) (W1 : AO) (Q : Exit × AFr × ASt → Prop) :
  (aBuiltinM EL .len [22] [vA] (vcLb_s0 o0 o1 o2 T R W) = some (.int .i64 (.ofNat n), vcLb_s0 o0 o1 o2 T R W) ∧ ifB (ltF (.ofNat i) (.ofNat n)) (still (vcLb_s0 o0 o1 o2 T R W) (aIndexAddr EL 22 vA (.int .i64 (.ofNat i))) = some (.ptr (some (0, i * 4)), vcLb_s0 o0 o1 o2 T R W) ∧ aLoad EL 32 (.ptr (some (0, i * 4))) (vcLb_s0 o0 o1 o2 T R W) = some (.agg [.int .i64 kd, .int .u64 m, .int .i64 b, .bool w], vcLb_s0 o0 o1 o2 T R W) ∧ (M EL (drawA EL) (smL q) 56).call 9 [.ptr (some (3, 0)), V, .agg [.int .i64 kd, .int .u64 m, .int .i64 b, .bool w]] (vcLb_s0 o0 o1 o2 T R W) = some (.tuple [V', .bool true], vcLb_s1 o0 o1 o2 T1 N W1) ∧ Q (.normal, xFr [(0, vA), (1, vB), (2, vC), (6, .bool false), (7, .ptr (some (3, 0))), (8, V'), (9, .int .i64 (wrapF .i64 (.ofNat i + .ofNat 1)))] 102, vcLb_s1 o0 o1 o2 T1 N W1)) (Q (.exit 0, xFr [(0, vA), (1, vB), (2, vC), (6, .bool false), (7, .ptr (some (3, 0))), (8, V), (9, .int .i64 (.ofNat i))] 102, vcLb_s0 o0 o1 o2 T R W))) =
  (tLb q vA vB vC V V' n i kd m b w o0 o1 o2 T R W T1 N W1).allY (fun r => Q (canR [0, 1, 2, 6, 7, 8, 9] [0, 1, 2, 3, 4, 5, 6, 7, 8, 9, 10, 11, 12, 13, 14, 15, 16, 17, 18, 19, 20, 21, 22, 23, 24, 25, 26, 27, 28, 29, 30, 31, 32, 33, 34, 35, 36, 37, 38, 39, 40, 41, 42, 43, 44, 45, 46, 47, 48, 49, 50, 51, 52, 53, 54, 55, 56, 57, 58, 59, 60, 61, 62, 63, 64, 65, 66, 67, 68, 69, 70, 71, 72, 73, 74, 75, 76, 77, 78, 79, 80, 81, 82, 83, 84, 85, 86, 87, 88, 89, 90, 91, 92, 93, 94, 95, 96, 97, 98, 99] r)) (.v (.int .i64 (.ofNat n), vcLb_s0 o0 o1 o2 T R W) (.b (.v (.ptr (some (0, i * 4)), vcLb_s0 o0 o1 o2 T R W) (.v (.agg [.int .i64 kd, .int .u64 m, .int .i64 b, .bool w], vcLb_s0 o0 o1 o2 T R W) (.v (.tuple [V', .bool true], vcLb_s1 o0 o1 o2 T1 N W1) .nil))) .nil)) := by kernel_rfl
noncomputable def vcLc_s0 (n : Nat) (o0 : AO) (o1 : AO) (o2 : AO) (R : AO) (W : AO) : ASt := mkSt [(0, o0), (1, o1), (2, o2), (3, .cells [.bool true, .slice (some (4, 0)) n (.rest 4)] true), (4, R), (5, W), (6, .cells [] true)] 7
noncomputable def vcLc_s1 (n : Nat) (o0 : AO) (o1 : AO) (o2 : AO) (R : AO) (W : AO) (N1 : AO) : ASt := mkSt [(0, o0), (1, o1), (2, o2), (3, .cells [.bool true, .slice (some (4, 0)) n (.rest 4)] true), (4, R), (5, W), (6, .cells [] true), (7, N1)] 8
noncomputable def vcLc_s2 (n : Nat) (o0 : AO) (o1 : AO) (o2 : AO) (R : AO) (W : AO) (N1 : AO) : ASt := mkSt [(0, o0), (1, o1), (2, o2), (3, .cells [.bool true, .slice (some (4, 0)) n (.rest 4)] true), (4, R), (5, W), (6, .cells [] true), (7, N1), (8, .cells [.bool true, .slice (some (7, 0)) n (.rest 4)] true)] 9
noncomputable def vcLc_s3 (n : Nat) (o0 : AO) (o1 : AO) (o2 : AO) (R : AO) (W : AO) (N1 : AO) (W1 : AO) : ASt := mkSt [(0, o0), (1, o1), (2, o2), (3, .cells [.bool true, .slice (some (4, 0)) n (.rest 4)] true), (4, R), (5, W), (6, .cells [] true), (7, N1), (8, .cells [.bool true, .slice (some (7, 0)) n (.rest 4)] true), (9, W1)] 10
theorem vcLc (vA : AV) (vB : AV) (vC : AV) (n : Nat) (i : Nat) (o0 : AO) (o1 : AO) (o2 : AO) (R : AO) (W : AO) (N1 : AO) (W1 : AO) (Q : Exit × AFr × ASt → Prop) :
  (aBuiltinM EL .append [35, 35] [.slice (some (6, 0)) 0 (.known 0), .slice (some (4, 0)) n (.rest 4)] (vcLc_s0 n o0 o1 o2 R W) = some (.slice (some (7, 0)) n (.rest 4), vcLc_s1 n o0 o1 o2 R W N1) ∧ aBuiltinM EL .append [27, 27] [.slice none 0 (.known 0), .slice (some (5, 0)) n (.rest 4)] (vcLc_s2 n o0 o1 o2 R W N1) = some (.slice (some (9, 0)) n (.rest 4), vcLc_s3 n o0 o1 o2 R W N1 W1) ∧ Q (.normal, xFr [(0, vA), (1, vB), (2, vC), (6, .bool false), (7, .ptr (some (3, 0))), (8, .slice (some (5, 0)) n (.rest 4)), (10, .ptr (some (8, 0))), (11, .slice (some (9, 0)) n (.rest 4))] 102, vcLc_s3 n o0 o1 o2 R W N1 W1)) =
  (tLc vA vB vC n i o0 o1 o2 R W N1 W1).allY (fun r => Q (canR [0, 1, 2, 6, 7, 8, 10, 11] [0, 1, 2, 3, 4, 5, 6, 7, 8, 9, 10, 11, 12, 13, 14, 15, 16, 17, 18, 19, 20, 21, 22, 23, 24, 25, 26, 27, 28, 29, 30, 31, 32, 33, 34, 35, 36, 37, 38, 39, 40, 41, 42, 43, 44, 45, 46, 47, 48, 49, 50, 51, 52, 53, 54, 55, 56, 57, 58, 59, 60, 61, 62, 63, 64, 65, 66, 67, 68, 69, 70, 71, 72, 73, 74, 75, 76, 77, 78, 79, 80, 81, 82, 83, 84, 85, 86, 87, 88, 89, 90, 91, 92, 93, 94, 95, 96, 97, 98, 99] r)) (.v (.slice (some (7, 0)) n (.rest 4), vcLc_s1 n o0 o1 o2 R W N1) (.v (.slice (some (9, 0)) n (.rest 4), vcLc_s3 n o0 o1 o2 R W N1 W1) .nil)) := by kernel_rfl
noncomputable def vcLd_s0 (o0 : AO) (o1 : AO) (o2 : AO) (R : AO) : ASt := mkSt [(0, o0), (1, o1), (2, o2), (3, .cells [.bool true, .slice (some (4, 0)) 0 (.rest 4)] true), (4, R), (5, .dead), (6, .cells [] true)] 7
noncomputable def vcLd_s1 (o0 : AO) (o1 : AO) (o2 : AO) (R : AO) : ASt := mkSt [(0, o0), (1, o1), (2, o2), (3, .cells [.bool true, .slice (some (4, 0)) 0 (.rest 4)] true), (4, R), (5, .dead), (6, .cells [] true), (7, .cells [.bool true, .slice (some (6, 0)) 0 (.known 0)] true)] 8
theorem vcLd (vA : AV) (vB : AV) (vC : AV) (i : Nat) (o0 : AO) (o1 : AO) (o2 : AO) (R : AO) (Q : Exit × AFr × ASt → Prop) :
  (aBuiltinM EL .append [35, 35] [.slice (some (6, 0)) 0 (.known 0), .slice (some (4, 0)) 0 (.rest 4)] (vcLd_s0 o0 o1 o2 R) = some (.slice (some (6, 0)) 0 (.known 0), vcLd_s0 o0 o1 o2 R) ∧ Q (.normal, xFr [(0, vA), (1, vB), (2, vC), (6, .bool false), (7, .ptr (some (3, 0))), (8, .slice none 0 (.known 0)), (10, .ptr (some (7, 0))), (11, .slice none 0 (.known 0))] 102, vcLd_s1 o0 o1 o2 R)) =
  (tLd vA vB vC i o0 o1 o2 R).allY (fun r => Q (canR [0, 1, 2, 6, 7, 8, 10, 11] [0, 1, 2, 3, 4, 5, 6, 7, 8, 9, 10, 11, 12, 13, 14, 15, 16, 17, 18, 19, 20, 21, 22, 23, 24, 25, 26, 27, 28, 29, 30, 31, 32, 33, 34, 35, 36, 37, 38, 39, 40, 41, 42, 43, 44, 45, 46, 47, 48, 49, 50, 51, 52, 53, 54, 55, 56, 57, 58, 59, 60, 61, 62, 63, 64, 65, 66, 67, 68, 69, 70, 71, 72, 73, 74, 75, 76, 77, 78, 79, 80, 81, 82, 83, 84, 85, 86, 87, 88, 89, 90, 91, 92, 93, 94, 95, 96, 97, 98, 99] r)) (.v (.slice (some (6, 0)) 0 (.known 0), vcLd_s0 o0 o1 o2 R) .nil) := by kernel_rfl
noncomputable def vcLe_s0 (o0 : AO) (o1 : AO) (o2 : AO) (R : AO) : ASt := mkSt [(0, o0), (1, o1), (2, o2), (3, .cells [.bool true, .slice (some (4, 0)) 0 (.known 0)] true), (4, R), (5, .dead), (6, .cells [] true)] 7
noncomputable def vcLe_s1 (o0 : AO) (o1 : AO) (o2 : AO) (R : AO) : ASt := mkSt [(0, o0), (1, o1), (2, o2), (3, .cells [.bool true, .slice (some (4, 0)) 0 (.known 0)] true), (4, R), (5, .dead), (6, .cells [] true), (7, .cells [.bool true, .slice (some (6, 0)) 0 (.known 0)] true)] 8
theorem vcLe (vA : AV) (vB : AV) (vC : AV) (i : Nat) (o0 : AO) (o1 : AO) (o2 : AO) (R : AO) (Q : Exit × AFr × ASt → Prop) :
  (aBuiltinM EL .append [35, 35] [.slice (some (6, 0)) 0 (.known 0), .slice (some (4, 0)) 0 (.known 0)] (vcLe_s0 o0 o1 o2 R) = some (.slice (some (6, 0)) 0 (.known 0), vcLe_s0 o0 o1 o2 R) ∧ Q (.normal, xFr [(0, vA), (1, vB), (2, vC), (6, .bool false), (7, .ptr (some (3, 0))), (8, .slice none 0 (.known 0)), (10, .ptr (some (7, 0))), (11, .slice none 0 (.known 0))] 102, vcLe_s1 o0 o1 o2 R)) =
  (tLe vA vB vC i o0 o1 o2 R).allY (fun r => Q (canR [0, 1, 2, 6, 7, 8, 10, 11] [0, 1, 2, 3, 4, 5, 6, 7, 8, 9, 10, 11, 12, 13, 14, 15, 16, 17, 18, 19, 20, 21, 22, 23, 24, 25, 26, 27, 28, 29, 30, 31, 32, 33, 34, 35, 36, 37, 38, 39, 40, 41, 42, 43, 44, 45, 46, 47, 48, 49, 50, 51, 52, 53, 54, 55, 56, 57, 58, 59, 60, 61, 62, 63, 64, 65, 66, 67, 68, 69, 70, 71, 72, 73, 74, 75, 76, 77, 78, 79, 80, 81, 82, 83, 84, 85, 86, 87, 88, 89, 90, 91, 92, 93, 94, 95, 96, 97, 98, 99] r)) (.v (.slice (some (6, 0)) 0 (.known 0), vcLe_s0 o0 o1 o2 R) .nil) := by kernel_rfl
noncomputable def vcLf_s0 (o0 : AO) (o1 : AO) (o2 : AO) : ASt := mkSt [(0, o0), (1, o1), (2, o2), (3, .cells [.bool true, .slice none 0 (.known 0)] true), (4, .dead), (5, .dead), (6, .cells [.bool true, .slice none 0 (.known 0)] true)] 7
theorem vcLf (vA : AV) (vB : AV) (vC : AV) (i : Nat) (o0 : AO) (o1 : AO) (o2 : AO) (Q : Exit × AFr × ASt → Prop) :
  (Q (.normal, xFr [(0, vA), (1, vB), (2, vC), (6, .bool false), (7, .ptr (some (3, 0))), (8, .slice none 0 (.known 0)), (10, .ptr (some (6, 0))), (11, .slice none 0 (.known 0))] 102, vcLf_s0 o0 o1 o2)) =
  (tLf vA vB vC i o0 o1 o2).allY (fun r => Q (canR [0, 1, 2, 6, 7, 8, 10, 11] [0, 1, 2, 3, 4, 5, 6, 7, 8, 9, 10, 11, 12, 13, 14, 15, 16, 17, 18, 19, 20, 21, 22, 23, 24, 25, 26, 27, 28, 29, 30, 31, 32, 33, 34, 35, 36, 37, 38, 39, 40, 41, 42, 43, 44, 45, 46, 47, 48, 49, 50, 51, 52, 53, 54, 55, 56, 57, 58, 59, 60, 61, 62, 63, 64, 65, 66, 67, 68, 69, 70, 71, 72, 73, 74, 75, 76, 77, 78, 79, 80, 81, 82, 83, 84, 85, 86, 87, 88, 89, 90, 91, 92, 93, 94, 95, 96, 97, 98, 99] r)) (.nil) := by kernel_rfl
noncomputable def vcLg_s0 (o0 : AO) (o1 : AO) (o2 : AO) (T : AO) (R : AO) (W : AO) (T2 : AO) (R2 : AO) (W2 : AO) : ASt := mkSt [(0, o0), (1, o1), (2, o2), (3, T), (4, R), (5, W), (6, T2), (7, R2), (8, W2)] 9
noncomputable def vcLg_s1 (o0 : AO) (o1 : AO) (o2 : AO) (T1 : AO) (N : AO) (W1 : AO) (T2 : AO) (R2 : AO) (W2 : AO) : ASt := mkSt [(0, o0), (1, o1), (2, o2), (3, T1), (4, .dead), (5, .dead), (6, T2), (7, R2), (8, W2), (12, N), (13, W1)] 19
theorem vcLg (q : CallT) (vA : AV) (vB : AV) (vC : AV) (V : AV) (V' : AV) (V2 : AV) (n : Nat) (i : Nat) (kd : Int) (m : Int) (b : Int) (w : Bool) (o0 : AO) (o1 : AO) (o2 : AO) (T : AO) (R : AO) (W : AO) (T1 : AO) (N : AO) (W1 : AO) (T2 : AO) (R2 : AO) (W2 : AO) (Q : Exit × AFr × ASt → Prop) :
  (aBuiltinM EL .len [22] [vB] (vcLg_s0 o0 o1 o2 T R W T2 R2 W2) = some (.int .i64 (.ofNat n), vcLg_s0 o0 o1 o2 T R W T2 R2 W2) ∧ ifB (ltF (.ofNat i) (.ofNat n)) (still (vcLg_s0 o0 o1 o2 T R W T2 R2 W2) (aIndexAddr EL 22 vB (.int .i64 (.ofNat i))) = some (.ptr (some (1, i * 4)), vcLg_s0 o0 o1 o2 T R W T2 R2 W2) ∧ aLoad EL 32 (.ptr (some (1, i * 4))) (vcLg_s0 o0 o1 o2 T R W T2 R2 W2) = some (.agg [.int .i64 kd, .int .u64 m, .int .i64 b, .bool w], vcLg_s0 o0 o1 o2 T R W T2 R2 W2) ∧ (M EL (drawA EL) (smL q) 55).call 9 [.ptr (some (3, 0)), V, .agg [.int .i64 kd, .int .u64 m, .int .i64 b, .bool w]] (vcLg_s0 o0 o1 o2 T R W T2 R2 W2) = some (.tuple [V', .bool true], vcLg_s1 o0 o1 o2 T1 N W1 T2 R2 W2) ∧ Q (.normal, xFr [(0, vA), (1, vB), (2, vC), (6, .bool false), (7, .ptr (some (3, 0))), (8, V'), (10, .ptr (some (6, 0))), (11, V2), (12, .int .i64 (wrapF .i64 (.ofNat i + .ofNat 1)))] 102, vcLg_s1 o0 o1 o2 T1 N W1 T2 R2 W2)) (Q (.exit 2, xFr [(0, vA), (1, vB), (2, vC), (6, .bool false), (7, .ptr (some (3, 0))), (8, V), (10, .ptr (some (6, 0))), (11, V2), (12, .int .i64 (.ofNat i))] 102, vcLg_s0 o0 o1 o2 T R W T2 R2 W2))) =
  (tLg q vA vB vC V V' V2 n i kd m b w o0 o1 o2 T R W T1 N W1 T2 R2 W2).allY (fun r => Q (canR [0, 1, 2, 6, 7, 8, 10, 11, 12] [0, 1, 2, 3, 4, 5, 6, 7, 8, 9, 10, 11, 12, 13, 14, 15, 16, 17, 18, 19, 20, 21, 22, 23, 24, 25, 26, 27, 28, 29, 30, 31, 32, 33, 34, 35, 36, 37, 38, 39, 40, 41, 42, 43, 44, 45, 46, 47, 48, 49, 50, 51, 52, 53, 54, 55, 56, 57, 58, 59, 60, 61, 62, 63, 64, 65, 66, 67, 68, 69, 70, 71, 72, 73, 74, 75, 76, 77, 78, 79, 80, 81, 82, 83, 84, 85, 86, 87, 88, 89, 90, 91, 92, 93, 94, 95, 96, 97, 98, 99] r)) (.v (.int .i64 (.ofNat n), vcLg_s0 o0 o1 o2 T R W T2 R2 W2) (.b (.v (.ptr (some (1, i * 4)), vcLg_s0 o0 o1 o2 T R W T2 R2 W2) (.v (.agg [.int .i64 kd, .int .u64 m, .int .i64 b, .bool w], vcLg_s0 o0 o1 o2 T R W T2 R2 W2) (.v (.tuple [V', .bool true], vcLg_s1 o0 o1 o2 T1 N W1 T2 R2 W2) .nil))) .nil)) := by kernel_rfl
noncomputable def vcLh_s0 (o0 : AO) (o1 : AO) (o2 : AO) (T : AO) (R : AO) (W : AO) (T2 : AO) (R2 : AO) (W2 : AO) : ASt := mkSt [(0, o0), (1, o1), (2, o2), (3, T), (4, R), (5, W), (6, T2), (7, R2), (8, W2)] 9
noncomputable def vcLh_s1 (o0 : AO) (o1 : AO) (o2 : AO) (T : AO) (R : AO) (W : AO) (T1 : AO) (N : AO) (W1 : AO) : ASt := mkSt [(0, o0), (1, o1), (2, o2), (3, T), (4, R), (5, W), (6, T1), (7, .dead), (8, .dead), (12, N), (13, W1)] 19
theorem vcLh (q : CallT) (vA : AV) (vB : AV) (vC : AV) (V : AV) (V' : AV) (V2 : AV) (n : Nat) (i : Nat) (kd : Int) (m : Int) (b : Int) (w : Bool) (o0 : AO) (o1 : AO) (o2 : AO) (T : AO) (R : AO) (W : AO) (T1 : AO) (N : AO) (W1 : AO) (T2 : AO) (R2 : AO) (W2 : AO) (Q : Exit × AFr × ASt → Prop) :
  (aBuiltinM EL .len [22] [vC] (vcLh_s0 o0 o1 o2 T R W T2 R2 W2) = some (.int .i64 (.ofNat n), vcLh_s0 o0 o1 o2 T R W T2 R2 W2) ∧ ifB (ltF (.ofNat i) (.ofNat n)) (still (vcLh_s0 o0 o1 o2 T R W T2 R2 W2) (aIndexAddr EL 22 vC (.int .i64 (.ofNat i))) = some (.ptr (some (2, i * 4)), vcLh_s0 o0 o1 o2 T R W T2 R2 W2) ∧ aLoad EL 32 (.ptr (some (2, i * 4))) (vcLh_s0 o0 o1 o2 T R W T2 R2 W2) = some (.agg [.int .i64 kd, .int .u64 m, .int .i64 b, .bool w], vcLh_s0 o0 o1 o2 T R W T2 R2 W2) ∧ (M EL (drawA EL) (smL q) 55).call 9 [.ptr (some (6, 0)), V2, .agg [.int .i64 kd, .int .u64 m, .int .i64 b, .bool w]] (vcLh_s0 o0 o1 o2 T R W T2 R2 W2) = some (.tuple [V', .bool true], vcLh_s1 o0 o1 o2 T R W T1 N W1) ∧ Q (.normal, xFr [(0, vA), (1, vB), (2, vC), (6, .bool false), (7, .ptr (some (3, 0))), (8, V), (10, .ptr (some (6, 0))), (11, V'), (15, .int .i64 (wrapF .i64 (.ofNat i + .ofNat 1)))] 102, vcLh_s1 o0 o1 o2 T R W T1 N W1)) (Q (.exit 4, xFr [(0, vA), (1, vB), (2, vC), (6, .bool false), (7, .ptr (some (3, 0))), (8, V), (10, .ptr (some (6, 0))), (11, V2), (15, .int .i64 (.ofNat i))] 102, vcLh_s0 o0 o1 o2 T R W T2 R2 W2))) =
  (tLh q vA vB vC V V' V2 n i kd m b w o0 o1 o2 T R W T1 N W1 T2 R2 W2).allY (fun r => Q (canR [0, 1, 2, 6, 7, 8, 10, 11, 15] [0, 1, 2, 3, 4, 5, 6, 7, 8, 9, 10, 11, 12, 13, 14, 15, 16, 17, 18, 19, 20, 21, 22, 23, 24, 25, 26, 27, 28, 29, 30, 31, 32, 33, 34, 35, 36, 37, 38, 39, 40, 41, 42, 43, 44, 45, 46, 47, 48, 49, 50, 51, 52, 53, 54, 55, 56, 57, 58, 59, 60, 61, 62, 63, 64, 65, 66, 67, 68, 69, 70, 71, 72, 73, 74, 75, 76, 77, 78, 79, 80, 81, 82, 83, 84, 85, 86, 87, 88, 89, 90, 91, 92, 93, 94, 95, 96, 97, 98, 99] r)) (.v (.int .i64 (.ofNat n), vcLh_s0 o0 o1 o2 T R W T2 R2 W2) (.b (.v (.ptr (some (2, i * 4)), vcLh_s0 o0 o1 o2 T R W T2 R2 W2) (.v (.agg [.int .i64 kd, .int .u64 m, .int .i64 b, .bool w], vcLh_s0 o0 o1 o2 T R W T2 R2 W2) (.v (.tuple [V', .bool true], vcLh_s1 o0 o1 o2 T R W T1 N W1) .nil))) .nil)) := by kernel_rfl
noncomputable def vcLz_s0 (o0 : AO) (o1 : AO) (o2 : AO) (T : AO) (R : AO) (W : AO) (T2 : AO) (R2 : AO) (W2 : AO) : ASt := mkSt [(0, o0), (1, o1), (2, o2), (3, T), (4, R), (5, W), (6, T2), (7, R2), (8, W2)] 9
noncomputable def vcLz_s1 (o0 : AO) (o1 : AO) (o2 : AO) (T : AO) (R : AO) (W : AO) (T2 : AO) (R2 : AO) (W2 : AO) : ASt := mkSt [(0, o0), (1, o1), (2, o2), (3, T), (4, R), (5, W), (6, T2), (7, R2), (8, W2)] 89
noncomputable def vcLz_s2 (o0 : AO) (o1 : AO) (o2 : AO) (T : AO) (R : AO) (W : AO) (T2 : AO) (R2 : AO) (W2 : AO) : ASt := mkSt [(0, o0), (1, o1), (2, o2), (3, T), (4, R), (5, W), (6, T2), (7, R2), (8, W2)] 169
theorem vcLz (q : CallT) (vA : AV) (vB : AV) (vC : AV) (V : AV) (V2 : AV) (i : Nat) (o0 : AO) (o1 : AO) (o2 : AO) (T : AO) (R : AO) (W : AO) (T2 : AO) (R2 : AO) (W2 : AO) (Q : Exit × Option AV → Prop) :
  ((M EL (drawA EL) (smL q) 58).call 11 [.ptr (some (3, 0)), V] (vcLz_s0 o0 o1 o2 T R W T2 R2 W2) = some (.bool true, vcLz_s1 o0 o1 o2 T R W T2 R2 W2) ∧ (M EL (drawA EL) (smL q) 58).call 11 [.ptr (some (6, 0)), V2] (vcLz_s1 o0 o1 o2 T R W T2 R2 W2) = some (.bool true, vcLz_s2 o0 o1 o2 T R W T2 R2 W2) ∧ (M EL (drawA EL) (smL q) 58).call 7 [] (vcLz_s2 o0 o1 o2 T R W T2 R2 W2) = some (.bool true, vcLz_s2 o0 o1 o2 T R W T2 R2 W2) ∧ Q (.ret, some (.bool true))) =
  (tLz q vA vB vC V V2 i o0 o1 o2 T R W T2 R2 W2).allY (fun r => Q (r.1, ans (leaveA EL Try.f3 r.2.1 r.2.2))) (.v (.bool true, vcLz_s1 o0 o1 o2 T R W T2 R2 W2) (.v (.bool true, vcLz_s2 o0 o1 o2 T R W T2 R2 W2) (.v (.bool true, vcLz_s2 o0 o1 o2 T R W T2 R2 W2) .nil))) := by kernel_rfl
end Go.Proofs.Ytelehjeifhelnaa.ovp
end

section
open Go Go.Ax Go.Proofs
namespace Go.Proofs.Ytelehjeifhelnaa.ovp
set_option linter.unusedVariables false
theorem ELok : Env.Ok Try.prog EL := envEx_ok (xs := []) ⟨⟨Try.func3, Try.call3⟩, ⟨Try.func8, Try.call8⟩, ⟨Try.func10, Try.call10⟩, ⟨Try.func40, Try.call40⟩, ⟨Try.func41, Try.call41⟩, trivial⟩ trivial (by kernel_rfl)
noncomputable def EKn : Env := envEx Try.prog [0, 3, 4, 5, 22, 24, 27, 28, 30, 32, 35, 37, 39, 40, 42, 43, 77, 81, 84] [(7, Try.f7), (8, Try.f8), (12, Try.f12), (13, Try.f13), (40, Try.f40), (41, Try.f41), (43, Try.f43), (44, Try.f44), (45, Try.f45), (46, Try.f46), (47, Try.f47), (65, Try.f65), (66, Try.f66)] []
theorem EKnok : Env.Ok Try.prog EKn := envEx_ok (xs := []) ⟨⟨Try.func7, Try.call7⟩, ⟨Try.func8, Try.call8⟩, ⟨Try.func12, Try.call12⟩, ⟨Try.func13, Try.call13⟩, ⟨Try.func40, Try.call40⟩, ⟨Try.func41, Try.call41⟩, ⟨Try.func43, Try.call43⟩, ⟨Try.func44, Try.call44⟩, ⟨Try.func45, Try.call45⟩, ⟨Try.func46, Try.call46⟩, ⟨Try.func47, Try.call47⟩, ⟨Try.func65, Try.call65⟩, ⟨Try.func66, Try.call66⟩, trivial⟩ trivial (by kernel_rfl)
theorem known_any {S : ASt} : Call1 Try.prog 7 [] S (.bool true, S) := by
  have hrun : AtMem Try.prog 7 [] (mkSt [] 0) (.bool true) := AtMem.of_tm EKnok (fls := []) (rf := fl0) (n := 60) noSum_ok (y := .nil) (by
    have : ((.bool true : AV) = .bool true) = ((TM EKn noSum [] fl0 60).call 7 [] (mkSt [] 0)).allY (fun r => r.1 = .bool true) .nil := by kernel_rfl
    exact Eq.mp this rfl)
  exact Call1.read hrun (by simp [refsV]) (l := []) rfl (fun j x hj => by
    have : (mkSt [] 0).h.get j = none := T.get_e j
    rw [this] at hj; cases hj) (fun j q hq => by simp at hq) fun ι args' hv => ⟨hv.size, fun k y y' hy hy' => by simp at hy⟩
theorem frE_cons {ids : List Nat} {fr : AFr} {k : Nat} {ks : List Nat} {v v' : AV} {l : List (Nat × AV)} (h1 : (fr.m.get k).getD undefA = v) (h2 : renV ids v = some v') (h3 : frE ids fr ks = some l) : frE ids fr (k :: ks) = some ((k, v') :: l) := by
  unfold frE
  rw [h1, h2]
  simp only [h3]
theorem el22 : sliceT EL 22 = some 4 := by kernel_rfl
theorem eg32 : aggT EL 32 = some 4 := by kernel_rfl
theorem ep35 : appT EL 35 35 = some (4, 24) := by kernel_rfl
theorem ep27 : appT EL 27 27 = some (4, 24) := by kernel_rfl
structure AC where
  kd : Int
  num : Int
  blk : Int
  wr : Bool
def encA (a : AC) : List AV := [.int .i64 a.kd, .int .u64 a.num, .int .i64 a.blk, .bool a.wr]
theorem encA_len (a : AC) : (encA a).length = 4 := rfl
theorem encA_refs {l : List AC} : ∀ c, c ∈ l.flatMap encA → refsV 0 c := fun c hc => by
  obtain ⟨r, _, hc⟩ := List.mem_flatMap.1 hc
  simp only [encA, List.mem_cons, List.not_mem_nil, or_false] at hc
  rcases hc with rfl | rfl | rfl | rfl <;> simp [refsV]
def stepC (l : List RQ) (a : AC) : List RQ := stepT a.kd a.num a.blk a.wr l
theorem promP_len (T : List RQ) : (promP T).1.length = T.length := (promK_len (T := T) T.length).1
theorem stepC_len {l : List RQ} {a : AC} : (stepC l a).length ≤ l.length + 1 := by
  unfold stepC stepT
  cases eqF a.kd (.ofNat 1) with
  | true =>
    rw [cond_true]
    cases ltF a.blk (.ofNat 64) with
    | true =>
      rw [cond_true]
      cases l.any (findP a.num) with
      | true => rw [cond_true]; omega
      | false => rw [cond_false]; unfold plusQ; simp
    | false => rw [cond_false]; omega
  | false =>
    rw [cond_false]
    cases eqF a.kd (.ofNat 2) with
    | true =>
      rw [cond_true]
      cases l.any (findP a.num) with
      | true =>
        rw [cond_true, promP_len]
        unfold dropQ
        have := List.length_eraseP_le (p := findP a.num) (l := l)
        omega
      | false => rw [cond_false]; omega
    | false =>
      rw [cond_false]
      cases eqF a.kd (.ofNat 3) with
      | true => rw [cond_true]; simp
      | false => rw [cond_false]; omega
section
variable {l acts A0 A1 A2 : List AC} {L L2 : List RQ} {V V2 vA vB vC : AV} {R R2 o0 o1 o2 : AO} {S : ASt} {a i n : Nat}
noncomputable def laterS (S : ASt) : ASt := { h := S.h, next := S.next + 80 }
theorem same_law (ha3 : a = 3 ∨ a = 6) (hT : TabV (a + 1) L V R) (hl : L.length < 100000) (ha : a + 3 ≤ S.next) (g0 : S.h.get a = some (tob V)) (g1 : S.h.get (a + 1) = some R) (g2 : S.h.get (a + 2) = some (Ww L))
    (e0 : T.set D S.h a (tob V) = S.h) (e1 : T.set D S.h (a + 1) R = S.h) (e2 : T.set D S.h (a + 2) (Ww L) = S.h) :
    Call1 Try.prog 11 [.ptr (some (a, 0)), Vw (a + 2) L] S (.bool true, laterS S) := by
  obtain ⟨k, hk⟩ := hT.alive
  have hT1 : TabV 1 L (shV 1 V) R := hT.sh
  have hrun := fun B w0 ι W args' hB hsr hv => sameRun hT1 hl B w0 ι W args' hB hsr hv
  have hex2 : ∀ ids, ([] : List AV).map (renV ids) = ([] : List AV).map some := fun ids => rfl
  have hg : ∀ {j : Nat}, j < k → gA a k S.next j = a + j := fun {j} h => by
    unfold gA
    have : Nat.blt j k = true := by rw [Nat.blt_eq]; exact h
    rw [this]; rfl
  have kV : 1 ≤ k → (k = 1 → V = nilA) → BackO (gA a k S.next) (tob (shV 1 V)) (tob V) := fun h1 h2 => by
    cases hk with
    | one q1 q2 q3 => subst q2; exact .cells rfl
    | two cs n0 c q1 q2 q3 hc =>
      subst q2
      exact .cells (by show [mapV _ _, mapV _ _] = _; simp only [shV, mapV, hg (show 1 < 2 by decide)])
    | three cs n0 c q1 q2 q3 hc =>
      subst q2
      exact .cells (by show [mapV _ _, mapV _ _] = _; simp only [shV, mapV, hg (show 1 < 3 by decide)])
  cases hk with
  | one h1 h2 h3 =>
    have h := tab_frame (S := S) (ex := []) ha3 ha g0 g1 g2 hex2 hrun (.one h1 h2 h3) (outs := [(0, tob V)]) (n := S.next + 80) (v := .bool true) (fun j hj => ⟨_, List.mem_cons_self, by omega⟩) (by omega) (fun q hq => by
      obtain ⟨q1, q2, q3, q4, q5⟩ := hq
      refine ⟨by rw [q1]; exact .keep (by simp [refsV]), by omega, fun p hp => ?_⟩
      simp only [List.mem_cons, List.not_mem_nil, or_false] at hp
      subst hp
      exact ⟨.inl (by show 0 < 1; decide), by show S.next + 0 < _; omega, .inr ⟨rfl, _, q2, kV (Nat.le_refl 1) fun _ => h2⟩⟩)
    refine Call1.mem ?_ h
    show ASt.mk (S.h.set D a _) _ = _
    rw [e0]; rfl
  | two cs n0 c h1 h2 h3 hc =>
    have h := tab_frame (S := S) (ex := []) ha3 ha g0 g1 g2 hex2 hrun (.two cs n0 c h1 h2 h3 hc) (outs := [(0, tob V), (1, R)]) (n := S.next + 80) (v := .bool true) (fun j hj => by
      rcases (by omega : j = 0 ∨ j = 1) with rfl | rfl
      · exact ⟨_, List.mem_cons_self, rfl⟩
      · exact ⟨_, List.mem_cons_of_mem _ List.mem_cons_self, rfl⟩) (by omega) (fun q hq => by
      obtain ⟨q1, q2, q3, q4, q5⟩ := hq
      refine ⟨by rw [q1]; exact .keep (by simp [refsV]), by omega, fun p hp => ?_⟩
      simp only [List.mem_cons, List.not_mem_nil, or_false] at hp
      rcases hp with rfl | rfl
      · exact ⟨.inl (by show 0 < 2; decide), by show S.next + 0 < _; omega, .inr ⟨rfl, _, q2, kV (by decide) fun h => by cases h⟩⟩
      · exact ⟨.inl (by show 1 < 2; decide), by show S.next + 1 < _; omega, .inr ⟨by rw [h3]; rfl, _, q3, by rw [h3]; exact .row hc⟩⟩)
    refine Call1.mem ?_ h
    show ASt.mk ((S.h.set D (gA a 2 S.next 0) _).set D (gA a 2 S.next 1) _) _ = _
    rw [hg (show 0 < 2 by decide), hg (show 1 < 2 by decide), Nat.add_zero, e0, e1]; rfl
  | three cs n0 c h1 h2 h3 hc =>
    have h := tab_frame (S := S) (ex := []) ha3 ha g0 g1 g2 hex2 hrun (.three cs n0 c h1 h2 h3 hc) (outs := [(0, tob V), (1, R), (2, Ww L)]) (n := S.next + 80) (v := .bool true) (fun j hj => by
      rcases (by omega : j = 0 ∨ j = 1 ∨ j = 2) with rfl | rfl | rfl
      · exact ⟨_, List.mem_cons_self, rfl⟩
      · exact ⟨_, List.mem_cons_of_mem _ List.mem_cons_self, rfl⟩
      · exact ⟨_, List.mem_cons_of_mem _ (List.mem_cons_of_mem _ List.mem_cons_self), rfl⟩) (by omega) (fun q hq => by
      obtain ⟨q1, q2, q3, q4, q5⟩ := hq
      refine ⟨by rw [q1]; exact .keep (by simp [refsV]), by omega, fun p hp => ?_⟩
      simp only [List.mem_cons, List.not_mem_nil, or_false] at hp
      rcases hp with rfl | rfl | rfl
      · exact ⟨.inl (by show 0 < 3; decide), by show S.next + 0 < _; omega, .inr ⟨rfl, _, q2, kV (by decide) fun h => by cases h⟩⟩
      · exact ⟨.inl (by show 1 < 3; decide), by show S.next + 1 < _; omega, .inr ⟨by rw [h3]; rfl, _, q3, by rw [h3]; exact .row hc⟩⟩
      · exact ⟨.inl (by show 2 < 3; decide), by show S.next + 2 < _; omega, .inr ⟨by rw [(Vw_row h1 2).2]; rfl, _, q4, by rw [(Vw_row h1 2).2]; exact .row enc4_refs⟩⟩)
    refine Call1.mem ?_ h
    show ASt.mk (((S.h.set D (gA a 3 S.next 0) _).set D (gA a 3 S.next 1) _).set D (gA a 3 S.next 2) _) _ = _
    rw [hg (show 0 < 3 by decide), hg (show 1 < 3 by decide), hg (show 2 < 3 by decide), Nat.add_zero, e0, e1, e2]; rfl
end
end Go.Proofs.Ytelehjeifhelnaa.ovp
end

section
open Go Go.Ax Go.Proofs
namespace Go.Proofs.Ytelehjeifhelnaa.ovp
set_option linter.unusedVariables false
section
variable {A0 A1 A2 : List AC} {L L2 : List RQ} {V V2 vA vB vC : AV} {R R2 o0 o1 o2 : AO} {S : ASt} {a i n : Nat}
structure Ins (vA vB vC : AV) (o0 o1 o2 : AO) (A0 A1 A2 : List AC) : Prop where
  s0 : SlArg EL 22 4 0 A0.length vA o0 (A0.flatMap encA)
  s1 : SlArg EL 22 4 1 A1.length vB o1 (A1.flatMap encA)
  s2 : SlArg EL 22 4 2 A2.length vC o2 (A2.flatMap encA)
  c0 : Came o0
  c1 : Came o1
  c2 : Came o2
  k0 : KeptV 3 vA
  k1 : KeptV 3 vB
  k2 : KeptV 3 vC
theorem actLoad {k : Nat} {l : List AC} {v : AV} {o : AO} {x : AC} (hs : SlArg EL 22 4 k l.length v o (l.flatMap encA)) (hS : S.h.get k = some o) (hx : l[i]? = some x) : aLoad EL 32 (.ptr (some (k, i * 4))) S = some (.agg (encA x), S) := by
  have h0 : 0 < l.length := by have := (List.getElem?_eq_some_iff.1 hx).1; omega
  rw [hs.obj h0] at hS
  exact load_agg eg32 hS (fm_one encA_len hx)
theorem actIdx {k : Nat} {l : List AC} {v : AV} {o : AO} (hs : SlArg EL 22 4 k l.length v o (l.flatMap encA)) (hi : i < l.length) : still S (aIndexAddr EL 22 v (.int .i64 (.ofNat i))) = some (.ptr (some (k, i * 4)), S) := by
  have := hs.idx i .i64 hi
  rw [Nat.zero_add] at this
  exact still_of this
theorem TabV.ren {k j : Nat} {ids : List Nat} (h : TabV k L V R) (hp : idxN ids k 0 = some j) : renO ids (tob V) = some (tob (shV j V)) := by
  cases h with
  | row h => simp [tob, renO, allR, mapR, renT, slW, renV, hp, shV]
  | nil => rfl
  | zero => simp [tob, renO, allR, mapR, renT, renV, hp, shV]
theorem Vw_ren {k j : Nat} {ids : List Nat} (hp : idxN ids k 0 = some j) : renV ids (Vw k L) = some (Vw j L) := by
  cases L with
  | nil => rfl
  | cons x L => simp [Vw, slW, renV, hp]
def QLa (vA vB vC : AV) (o0 o1 o2 : AO) (A0 : List AC) (L : List RQ) (V : AV) (R : AO) (i : Nat) (q : Exit × AFr × ASt) : Prop :=
  (∃ x V' R', A0[i]? = some x ∧ TabV 4 (stepC L x) V' R' ∧ Stops 3 .normal (fr3a vA vB vC (Vw 5 (stepC L x)) (i + 1)) (SL1 o0 o1 o2 (tob V') R' (Ww (stepC L x))) q) ∨
  (i = A0.length ∧ Stops 3 (.exit 0) (fr3a vA vB vC (Vw 5 L) i) (SL1 o0 o1 o2 (tob V) R (Ww L)) q)
theorem roundLa (I : Ins vA vB vC o0 o1 o2 A0 A1 A2) (hT : TabV 4 L V R) (hL : L.length < 80000) (hl : A0.length < 80000) (hi : i ≤ A0.length) :
    Trip Try.prog 3 none L3a (fr3a vA vB vC (Vw 5 L) i) (SL1 o0 o1 o2 (tob V) R (Ww L)) (QLa vA vB vC o0 o1 o2 A0 L V R i) := by
  have fin : ∀ {r : Exit × AFr × ASt}, QLa vA vB vC o0 o1 o2 A0 L V R i (canR [0, 1, 2, 6, 7, 8, 9] KO99 r) → QLa vA vB vC o0 o1 o2 A0 L V R i r := fun h => h.imp (fun ⟨x, V', R', h1, h2, h3⟩ => ⟨x, V', R', h1, h2, h3.can⟩) (fun h => ⟨h.1, h.2.can⟩)
  by_cases e : i < A0.length
  · obtain ⟨x, hx⟩ : ∃ x, A0[i]? = some x := ⟨_, List.getElem?_eq_getElem e⟩
    have e1 : wrapF .i64 (Int.ofNat i + Int.ofNat 1) = .ofNat (i + 1) := wI e (by omega)
    obtain ⟨V', N, hT', hcall⟩ := do_law (S := SL1 o0 o1 o2 (tob V) R (Ww L)) (a := 3) (kd := x.kd) (m := x.num) (b := x.blk) (w := x.wr) (.inl rfl) hT (by omega) (by show 3 + 3 ≤ 6; decide) (by kernel_rfl) (by kernel_rfl) (by kernel_rfl) (by kernel_rfl) (by kernel_rfl)
    have hT' : TabV 9 (stepC L x) V' N := hT'
    have hcall := Call1.mem (by kernel_rfl : _ = vcLb_s1 o0 o1 o2 (tob V') N (Ww (stepC L x))) hcall
    refine (Trip.runY ELok (sum := smL (tabC [_])) (onlyC_ok (tabC_ok fun e he => by
      simp only [List.mem_cons, List.not_mem_nil, or_false] at he
      subst he; exact hcall)) (Eq.mp (vcLb (tabC [_]) vA vB vC (Vw 5 L) (Vw 10 (stepC L x)) A0.length i x.kd x.num x.blk x.wr o0 o1 o2 (tob V) R (Ww L) (tob V') N (Ww (stepC L x)) (QLa vA vB vC o0 o1 o2 A0 L V R i))
        ⟨I.s0.len _, ifB_mk (fun _ => ⟨actIdx I.s0 e, actLoad I.s0 (by kernel_rfl) hx, call_at (onlyC_at rfl (tabC_hd ..)), .inl ⟨x, shV 4 V', N, hx, hT'.sh, rfl, ?_⟩⟩) fun h => nlt' e h⟩)).mono fun q hq => fin hq
    rw [e1]
    have hs : StP [0, 1, 2, 3, 9, 10] (vcLb_s1 o0 o1 o2 (tob V') N (Ww (stepC L x))) [(0, o0), (1, o1), (2, o2), (3, tob (shV 4 V')), (4, N), (5, Ww (stepC L x))] :=
      .came I.c0 rfl (by kernel_rfl) (.came I.c1 rfl (by kernel_rfl) (.came I.c2 rfl (by kernel_rfl) (.cons 3 (tob V') rfl (by kernel_rfl) (.of (hT'.ren rfl)) (.came hT'.came rfl (by kernel_rfl) (.came (Ww_came _) rfl (by kernel_rfl) .nil)))))
    exact Wk.heldX (kb := 3) [0, 1, 2, 3, 9, 10] (by kernel_rfl) (by kernel_rfl) [0, 1, 2, 6, 7, 8, 9]
      (frE_cons (by kernel_rfl) (I.k0 _ (by kernel_rfl)) (frE_cons (by kernel_rfl) (I.k1 _ (by kernel_rfl)) (frE_cons (by kernel_rfl) (I.k2 _ (by kernel_rfl)) (frE_cons (v := .bool false) (by kernel_rfl) rfl (frE_cons (v := pN 3) (by kernel_rfl) rfl (frE_cons (v := Vw 10 (stepC L x)) (by kernel_rfl) (Vw_ren (k := 10) rfl) (frE_cons (v := nI (i + 1)) (by kernel_rfl) rfl rfl))))))) hs
  · have ek : i = A0.length := by omega
    refine (Trip.runY ELok (sum := smL (tabC [])) (onlyC_ok (tabC_ok fun e he => by cases he)) (Eq.mp (vcLb (tabC []) vA vB vC (Vw 5 L) nilA A0.length i 0 0 0 false o0 o1 o2 (tob V) R (Ww L) .dead .dead .dead (QLa vA vB vC o0 o1 o2 A0 L V R i))
      ⟨I.s0.len _, ifB_mk (fun h => ?_) fun _ => .inr ⟨ek, rfl, Wk.refl _ _ _⟩⟩)).mono fun q hq => fin hq
    rw [ltF_nn] at h
    exact absurd (of_decide_eq_true h) e
def runC (L : List RQ) (l : List AC) : List RQ := l.foldl stepC L
theorem runC_succ {x : AC} {k : Nat} (h : A0[k]? = some x) : runC L (A0.take (k + 1)) = stepC (runC L (A0.take k)) x := by
  unfold runC
  rw [List.take_add_one, h, List.foldl_append]; rfl
theorem loopLa (I : Ins vA vB vC o0 o1 o2 A0 A1 A2) (hl : A0.length ≤ 25) :
    Trip Try.prog 3 none (.block 0 (.loop L3a)) (fr3a vA vB vC nilA 0) (SL1 o0 o1 o2 (tob nilA) .dead .dead) fun q => ∃ L V R, L.length ≤ 25 ∧ TabV 4 L V R ∧ Stops 3 .normal (fr3a vA vB vC (Vw 5 L) A0.length) (SL1 o0 o1 o2 (tob V) R (Ww L)) q := by
  refine Trip.block (Trip.loop (fun μ fr st => ∃ k L V R, k ≤ A0.length ∧ μ = A0.length - k ∧ L.length ≤ k ∧ TabV 4 L V R ∧ fr = fr3a vA vB vC (Vw 5 L) k ∧ st = SL1 o0 o1 o2 (tob V) R (Ww L)) ?_ A0.length ⟨0, [], nilA, .dead, by omega, by omega, Nat.le_refl _, .nil, rfl, rfl⟩)
  rintro μ fr st ⟨k, L, V, R, hk, rfl, hL, hT, rfl, rfl⟩
  refine (roundLa I hT (by omega) (by omega) hk).mono ?_
  rintro ⟨e, fr', st'⟩ (⟨x, V', R', h2, h3, h4, h5⟩ | ⟨h2, h4, h5⟩)
  · simp only at h4
    subst h4
    have hk2 : k < A0.length := (List.getElem?_eq_some_iff.1 h2).1
    have := stepC_len (l := L) (a := x)
    exact ⟨A0.length - (k + 1), _, _, by omega, h5, k + 1, stepC L x, V', R', by omega, rfl, by omega, h3, rfl, rfl⟩
  · simp only at h4
    subst h4
    subst h2
    exact ⟨fun _ => ⟨L, V, R, by omega, hT, rfl, h5⟩, fun h => absurd rfl h⟩
def QLg (vA vB vC : AV) (o0 o1 o2 : AO) (A1 : List AC) (L : List RQ) (V : AV) (R : AO) (V2 : AV) (T2 R2 W2 : AO) (i : Nat) (q : Exit × AFr × ASt) : Prop :=
  (∃ x V' R', A1[i]? = some x ∧ TabV 4 (stepC L x) V' R' ∧ Stops 3 .normal (fr3b vA vB vC (Vw 5 (stepC L x)) V2 (i + 1)) (SL2 o0 o1 o2 (tob V') R' (Ww (stepC L x)) T2 R2 W2) q) ∨
  (i = A1.length ∧ Stops 3 (.exit 2) (fr3b vA vB vC (Vw 5 L) V2 i) (SL2 o0 o1 o2 (tob V) R (Ww L) T2 R2 W2) q)
theorem roundLg (I : Ins vA vB vC o0 o1 o2 A0 A1 A2) (hT : TabV 4 L V R) (hT2 : TabV 7 L2 V2 R2) (hL : L.length < 80000) (hl : A1.length < 80000) (hi : i ≤ A1.length) :
    Trip Try.prog 3 none L3b (fr3b vA vB vC (Vw 5 L) (Vw 8 L2) i) (SL2 o0 o1 o2 (tob V) R (Ww L) (tob V2) R2 (Ww L2)) (QLg vA vB vC o0 o1 o2 A1 L V R (Vw 8 L2) (tob V2) R2 (Ww L2) i) := by
  have fin : ∀ {r : Exit × AFr × ASt}, QLg vA vB vC o0 o1 o2 A1 L V R (Vw 8 L2) (tob V2) R2 (Ww L2) i (canR [0, 1, 2, 6, 7, 8, 10, 11, 12] KO99 r) → QLg vA vB vC o0 o1 o2 A1 L V R (Vw 8 L2) (tob V2) R2 (Ww L2) i r := fun h => h.imp (fun ⟨x, V', R', h1, h2, h3⟩ => ⟨x, V', R', h1, h2, h3.can⟩) (fun h => ⟨h.1, h.2.can⟩)
  by_cases e : i < A1.length
  · obtain ⟨x, hx⟩ : ∃ x, A1[i]? = some x := ⟨_, List.getElem?_eq_getElem e⟩
    have e1 : wrapF .i64 (Int.ofNat i + Int.ofNat 1) = .ofNat (i + 1) := wI e (by omega)
    obtain ⟨V', N, hT', hcall⟩ := do_law (S := SL2 o0 o1 o2 (tob V) R (Ww L) (tob V2) R2 (Ww L2)) (a := 3) (kd := x.kd) (m := x.num) (b := x.blk) (w := x.wr) (.inl rfl) hT (by omega) (by show 3 + 3 ≤ 9; decide) (by kernel_rfl) (by kernel_rfl) (by kernel_rfl) (by kernel_rfl) (by kernel_rfl)
    have hT' : TabV 12 (stepC L x) V' N := hT'
    have hcall := Call1.mem (by kernel_rfl : _ = vcLg_s1 o0 o1 o2 (tob V') N (Ww (stepC L x)) (tob V2) R2 (Ww L2)) hcall
    refine (Trip.runY ELok (sum := smL (tabC [_])) (onlyC_ok (tabC_ok fun e he => by
      simp only [List.mem_cons, List.not_mem_nil, or_false] at he
      subst he; exact hcall)) (Eq.mp (vcLg (tabC [_]) vA vB vC (Vw 5 L) (Vw 13 (stepC L x)) (Vw 8 L2) A1.length i x.kd x.num x.blk x.wr o0 o1 o2 (tob V) R (Ww L) (tob V') N (Ww (stepC L x)) (tob V2) R2 (Ww L2) (QLg vA vB vC o0 o1 o2 A1 L V R (Vw 8 L2) (tob V2) R2 (Ww L2) i))
        ⟨I.s1.len _, ifB_mk (fun _ => ⟨actIdx I.s1 e, actLoad I.s1 (by kernel_rfl) hx, call_at (onlyC_at rfl (tabC_hd ..)), .inl ⟨x, shV 4 V', N, hx, hT'.sh, rfl, ?_⟩⟩) fun h => nlt' e h⟩)).mono fun q hq => fin hq
    rw [e1]
    have h22 : shV 7 V2 = V2 := by cases hT2 <;> rfl
    have hs : StP [0, 1, 2, 3, 12, 13, 6, 7, 8] (vcLg_s1 o0 o1 o2 (tob V') N (Ww (stepC L x)) (tob V2) R2 (Ww L2)) [(0, o0), (1, o1), (2, o2), (3, tob (shV 4 V')), (4, N), (5, Ww (stepC L x)), (6, tob V2), (7, R2), (8, Ww L2)] :=
      .came I.c0 rfl (by kernel_rfl) (.came I.c1 rfl (by kernel_rfl) (.came I.c2 rfl (by kernel_rfl) (.cons 3 (tob V') rfl (by kernel_rfl) (.of (hT'.ren rfl)) (.came hT'.came rfl (by kernel_rfl) (.came (Ww_came _) rfl (by kernel_rfl)
        (.cons 6 (tob V2) rfl (by kernel_rfl) (.of (by have := hT2.ren (ids := [0, 1, 2, 3, 12, 13, 6, 7, 8]) (j := 7) rfl; rw [h22] at this; exact this)) (.came hT2.came rfl (by kernel_rfl) (.came (Ww_came _) rfl (by kernel_rfl) .nil))))))))
    exact Wk.heldX (kb := 3) [0, 1, 2, 3, 12, 13, 6, 7, 8] (by kernel_rfl) (by kernel_rfl) [0, 1, 2, 6, 7, 8, 10, 11, 12]
      (frE_cons (by kernel_rfl) (I.k0 _ (by kernel_rfl)) (frE_cons (by kernel_rfl) (I.k1 _ (by kernel_rfl)) (frE_cons (by kernel_rfl) (I.k2 _ (by kernel_rfl)) (frE_cons (v := .bool false) (by kernel_rfl) rfl (frE_cons (v := pN 3) (by kernel_rfl) rfl (frE_cons (v := Vw 13 (stepC L x)) (by kernel_rfl) (Vw_ren (k := 13) rfl) (frE_cons (v := pN 6) (by kernel_rfl) rfl (frE_cons (v := Vw 8 L2) (by kernel_rfl) (Vw_ren (k := 8) rfl) (frE_cons (v := nI (i + 1)) (by kernel_rfl) rfl rfl))))))))) hs
  · have ek : i = A1.length := by omega
    refine (Trip.runY ELok (sum := smL (tabC [])) (onlyC_ok (tabC_ok fun e he => by cases he)) (Eq.mp (vcLg (tabC []) vA vB vC (Vw 5 L) nilA (Vw 8 L2) A1.length i 0 0 0 false o0 o1 o2 (tob V) R (Ww L) .dead .dead .dead (tob V2) R2 (Ww L2) (QLg vA vB vC o0 o1 o2 A1 L V R (Vw 8 L2) (tob V2) R2 (Ww L2) i))
      ⟨I.s1.len _, ifB_mk (fun h => ?_) fun _ => .inr ⟨ek, rfl, Wk.refl _ _ _⟩⟩)).mono fun q hq => fin hq
    rw [ltF_nn] at h
    exact absurd (of_decide_eq_true h) e
theorem loopLg (I : Ins vA vB vC o0 o1 o2 A0 A1 A2) (hT : TabV 4 L V R) (hT2 : TabV 7 L2 V2 R2) (hL : L.length ≤ 25) (hl : A1.length ≤ 25) :
    Trip Try.prog 3 none (.block 2 (.loop L3b)) (fr3b vA vB vC (Vw 5 L) (Vw 8 L2) 0) (SL2 o0 o1 o2 (tob V) R (Ww L) (tob V2) R2 (Ww L2)) fun q => ∃ L V R, L.length ≤ 50 ∧ TabV 4 L V R ∧ Stops 3 .normal (fr3b vA vB vC (Vw 5 L) (Vw 8 L2) A1.length) (SL2 o0 o1 o2 (tob V) R (Ww L) (tob V2) R2 (Ww L2)) q := by
  refine Trip.block (Trip.loop (fun μ fr st => ∃ k L V R, k ≤ A1.length ∧ μ = A1.length - k ∧ L.length ≤ 25 + k ∧ TabV 4 L V R ∧ fr = fr3b vA vB vC (Vw 5 L) (Vw 8 L2) k ∧ st = SL2 o0 o1 o2 (tob V) R (Ww L) (tob V2) R2 (Ww L2)) ?_ A1.length ⟨0, L, V, R, by omega, by omega, by omega, hT, rfl, rfl⟩)
  rintro μ fr st ⟨k, L, V, R, hk, rfl, hL, hT, rfl, rfl⟩
  refine (roundLg I hT hT2 (by omega) (by omega) hk).mono ?_
  rintro ⟨e, fr', st'⟩ (⟨x, V', R', h2, h3, h4, h5⟩ | ⟨h2, h4, h5⟩)
  · simp only at h4
    subst h4
    have hk2 : k < A1.length := (List.getElem?_eq_some_iff.1 h2).1
    have := stepC_len (l := L) (a := x)
    exact ⟨A1.length - (k + 1), _, _, by omega, h5, k + 1, stepC L x, V', R', by omega, rfl, by omega, h3, rfl, rfl⟩
  · simp only at h4
    subst h4
    subst h2
    exact ⟨fun _ => ⟨L, V, R, by omega, hT, rfl, h5⟩, fun h => absurd rfl h⟩
def QLh (vA vB vC : AV) (o0 o1 o2 : AO) (A2 : List AC) (L2 : List RQ) (V2 : AV) (R2 : AO) (V : AV) (T R W : AO) (i : Nat) (q : Exit × AFr × ASt) : Prop :=
  (∃ x V' R', A2[i]? = some x ∧ TabV 7 (stepC L2 x) V' R' ∧ Stops 3 .normal (fr3c vA vB vC V (Vw 8 (stepC L2 x)) (i + 1)) (SL2 o0 o1 o2 T R W (tob V') R' (Ww (stepC L2 x))) q) ∨
  (i = A2.length ∧ Stops 3 (.exit 4) (fr3c vA vB vC V (Vw 8 L2) i) (SL2 o0 o1 o2 T R W (tob V2) R2 (Ww L2)) q)
theorem roundLh (I : Ins vA vB vC o0 o1 o2 A0 A1 A2) (hT : TabV 4 L V R) (hT2 : TabV 7 L2 V2 R2) (hL : L2.length < 80000) (hl : A2.length < 80000) (hi : i ≤ A2.length) :
    Trip Try.prog 3 none L3c (fr3c vA vB vC (Vw 5 L) (Vw 8 L2) i) (SL2 o0 o1 o2 (tob V) R (Ww L) (tob V2) R2 (Ww L2)) (QLh vA vB vC o0 o1 o2 A2 L2 V2 R2 (Vw 5 L) (tob V) R (Ww L) i) := by
  have fin : ∀ {r : Exit × AFr × ASt}, QLh vA vB vC o0 o1 o2 A2 L2 V2 R2 (Vw 5 L) (tob V) R (Ww L) i (canR [0, 1, 2, 6, 7, 8, 10, 11, 15] KO99 r) → QLh vA vB vC o0 o1 o2 A2 L2 V2 R2 (Vw 5 L) (tob V) R (Ww L) i r := fun h => h.imp (fun ⟨x, V', R', h1, h2, h3⟩ => ⟨x, V', R', h1, h2, h3.can⟩) (fun h => ⟨h.1, h.2.can⟩)
  by_cases e : i < A2.length
  · obtain ⟨x, hx⟩ : ∃ x, A2[i]? = some x := ⟨_, List.getElem?_eq_getElem e⟩
    have e1 : wrapF .i64 (Int.ofNat i + Int.ofNat 1) = .ofNat (i + 1) := wI e (by omega)
    obtain ⟨V', N, hT', hcall⟩ := do_law (S := SL2 o0 o1 o2 (tob V) R (Ww L) (tob V2) R2 (Ww L2)) (a := 6) (kd := x.kd) (m := x.num) (b := x.blk) (w := x.wr) (.inr rfl) hT2 (by omega) (by show 6 + 3 ≤ 9; decide) (by kernel_rfl) (by kernel_rfl) (by kernel_rfl) (by kernel_rfl) (by kernel_rfl)
    have hT' : TabV 12 (stepC L2 x) V' N := hT'
    have hcall := Call1.mem (by kernel_rfl : _ = vcLh_s1 o0 o1 o2 (tob V) R (Ww L) (tob V') N (Ww (stepC L2 x))) hcall
    refine (Trip.runY ELok (sum := smL (tabC [_])) (onlyC_ok (tabC_ok fun e he => by
      simp only [List.mem_cons, List.not_mem_nil, or_false] at he
      subst he; exact hcall)) (Eq.mp (vcLh (tabC [_]) vA vB vC (Vw 5 L) (Vw 13 (stepC L2 x)) (Vw 8 L2) A2.length i x.kd x.num x.blk x.wr o0 o1 o2 (tob V) R (Ww L) (tob V') N (Ww (stepC L2 x)) (tob V2) R2 (Ww L2) (QLh vA vB vC o0 o1 o2 A2 L2 V2 R2 (Vw 5 L) (tob V) R (Ww L) i))
        ⟨I.s2.len _, ifB_mk (fun _ => ⟨actIdx I.s2 e, actLoad I.s2 (by kernel_rfl) hx, call_at (onlyC_at rfl (tabC_hd ..)), .inl ⟨x, shV 7 V', N, hx, hT'.sh, rfl, ?_⟩⟩) fun h => nlt' e h⟩)).mono fun q hq => fin hq
    rw [e1]
    have h22 : shV 4 V = V := by cases hT <;> rfl
    have hs : StP [0, 1, 2, 3, 4, 5, 6, 12, 13] (vcLh_s1 o0 o1 o2 (tob V) R (Ww L) (tob V') N (Ww (stepC L2 x))) [(0, o0), (1, o1), (2, o2), (3, tob V), (4, R), (5, Ww L), (6, tob (shV 7 V')), (7, N), (8, Ww (stepC L2 x))] :=
      .came I.c0 rfl (by kernel_rfl) (.came I.c1 rfl (by kernel_rfl) (.came I.c2 rfl (by kernel_rfl) (.cons 3 (tob V) rfl (by kernel_rfl) (.of (by have := hT.ren (ids := [0, 1, 2, 3, 4, 5, 6, 12, 13]) (j := 4) rfl; rw [h22] at this; exact this)) (.came hT.came rfl (by kernel_rfl) (.came (Ww_came _) rfl (by kernel_rfl)
        (.cons 6 (tob V') rfl (by kernel_rfl) (.of (hT'.ren rfl)) (.came hT'.came rfl (by kernel_rfl) (.came (Ww_came _) rfl (by kernel_rfl) .nil))))))))
    exact Wk.heldX (kb := 3) [0, 1, 2, 3, 4, 5, 6, 12, 13] (by kernel_rfl) (by kernel_rfl) [0, 1, 2, 6, 7, 8, 10, 11, 15]
      (frE_cons (by kernel_rfl) (I.k0 _ (by kernel_rfl)) (frE_cons (by kernel_rfl) (I.k1 _ (by kernel_rfl)) (frE_cons (by kernel_rfl) (I.k2 _ (by kernel_rfl)) (frE_cons (v := .bool false) (by kernel_rfl) rfl (frE_cons (v := pN 3) (by kernel_rfl) rfl (frE_cons (v := Vw 5 L) (by kernel_rfl) (Vw_ren (k := 5) rfl) (frE_cons (v := pN 6) (by kernel_rfl) rfl (frE_cons (v := Vw 13 (stepC L2 x)) (by kernel_rfl) (Vw_ren (k := 13) rfl) (frE_cons (v := nI (i + 1)) (by kernel_rfl) rfl rfl))))))))) hs
  · have ek : i = A2.length := by omega
    refine (Trip.runY ELok (sum := smL (tabC [])) (onlyC_ok (tabC_ok fun e he => by cases he)) (Eq.mp (vcLh (tabC []) vA vB vC (Vw 5 L) nilA (Vw 8 L2) A2.length i 0 0 0 false o0 o1 o2 (tob V) R (Ww L) .dead .dead .dead (tob V2) R2 (Ww L2) (QLh vA vB vC o0 o1 o2 A2 L2 V2 R2 (Vw 5 L) (tob V) R (Ww L) i))
      ⟨I.s2.len _, ifB_mk (fun h => ?_) fun _ => .inr ⟨ek, rfl, Wk.refl _ _ _⟩⟩)).mono fun q hq => fin hq
    rw [ltF_nn] at h
    exact absurd (of_decide_eq_true h) e
theorem loopLh (I : Ins vA vB vC o0 o1 o2 A0 A1 A2) (hT : TabV 4 L V R) (hT2 : TabV 7 L2 V2 R2) (hL : L2.length ≤ 25) (hl : A2.length ≤ 25) :
    Trip Try.prog 3 none (.block 4 (.loop L3c)) (fr3c vA vB vC (Vw 5 L) (Vw 8 L2) 0) (SL2 o0 o1 o2 (tob V) R (Ww L) (tob V2) R2 (Ww L2)) fun q => ∃ L2 V2 R2, L2.length ≤ 50 ∧ TabV 7 L2 V2 R2 ∧ Stops 3 .normal (fr3c vA vB vC (Vw 5 L) (Vw 8 L2) A2.length) (SL2 o0 o1 o2 (tob V) R (Ww L) (tob V2) R2 (Ww L2)) q := by
  refine Trip.block (Trip.loop (fun μ fr st => ∃ k L2 V2 R2, k ≤ A2.length ∧ μ = A2.length - k ∧ L2.length ≤ 25 + k ∧ TabV 7 L2 V2 R2 ∧ fr = fr3c vA vB vC (Vw 5 L) (Vw 8 L2) k ∧ st = SL2 o0 o1 o2 (tob V) R (Ww L) (tob V2) R2 (Ww L2)) ?_ A2.length ⟨0, L2, V2, R2, by omega, by omega, by omega, hT2, rfl, rfl⟩)
  rintro μ fr st ⟨k, L2, V2, R2, hk, rfl, hL, hT2, rfl, rfl⟩
  refine (roundLh I hT hT2 (by omega) (by omega) hk).mono ?_
  rintro ⟨e, fr', st'⟩ (⟨x, V', R', h2, h3, h4, h5⟩ | ⟨h2, h4, h5⟩)
  · simp only at h4
    subst h4
    have hk2 : k < A2.length := (List.getElem?_eq_some_iff.1 h2).1
    have := stepC_len (l := L2) (a := x)
    exact ⟨A2.length - (k + 1), _, _, by omega, h5, k + 1, stepC L2 x, V', R', by omega, rfl, by omega, h3, rfl, rfl⟩
  · simp only at h4
    subst h4
    subst h2
    exact ⟨fun _ => ⟨L2, V2, R2, by omega, hT2, rfl, h5⟩, fun h => absurd rfl h⟩
end
end Go.Proofs.Ytelehjeifhelnaa.ovp
end

section
open Go Go.Ax Go.Proofs
namespace Go.Proofs.Ytelehjeifhelnaa.ovp
set_option linter.unusedVariables false
section
variable {A0 A1 A2 : List AC} {L L2 : List RQ} {V V2 vA vB vC : AV} {R R2 o0 o1 o2 : AO} {S : ASt} {a i n : Nat}
theorem eqPiece : seqL (dropC 4 c3) = preC 0 (dropC 3 (dropC 0 c3)) := by kernel_rfl
def QCp (vA vB vC : AV) (o0 o1 o2 : AO) (L : List RQ) (V : AV) (R : AO) (q : Exit × AFr × ASt) : Prop := ∃ V2 R2, TabV 7 L V2 R2 ∧ Stops 3 .normal (fr3m vA vB vC (Vw 5 L) (Vw 8 L)) (SL2 o0 o1 o2 (tob V) R (Ww L) (tob V2) R2 (Ww L)) q
theorem copyStep (I : Ins vA vB vC o0 o1 o2 A0 A1 A2) (hT : TabV 4 L V R) (hL : L.length ≤ 25) : Trip Try.prog 3 none (seqL (dropC 4 c3)) (fr3a vA vB vC (Vw 5 L) i) (SL1 o0 o1 o2 (tob V) R (Ww L)) (QCp vA vB vC o0 o1 o2 L V R) := by
  rw [eqPiece]
  have fin : ∀ {r : Exit × AFr × ASt}, QCp vA vB vC o0 o1 o2 L V R (canR [0, 1, 2, 6, 7, 8, 10, 11] KO99 r) → QCp vA vB vC o0 o1 o2 L V R r := fun ⟨V2, R2, h1, h2⟩ => ⟨V2, R2, h1, h2.can⟩
  by_cases h0 : L = []
  · subst h0
    cases hT with
    | row hR =>
      rename_i cs
      refine (Trip.runY ELok noSum_ok (Eq.mp (vcLd vA vB vC i o0 o1 o2 (.cells cs true) (QCp vA vB vC o0 o1 o2 [] (slW 4 0) (.cells cs true))) ⟨?_, .slice (some (7, 0)) 0 (.known 0), .cells [] true, .zero, rfl, ?_⟩)).mono fun q hq => fin hq
      · obtain ⟨ei, h1, h2, h⟩ := append_red (E := EL) (s := .slice (some (6, 0)) 0 (.known 0)) (x := .slice (some (4, 0)) 0 (.rest 4)) (st := vcLd_s0 o0 o1 o2 (.cells cs true)) (n := 0) (new := []) ep35 rfl (first_at (cs := cs) (rw := true) (by kernel_rfl) (by simp [takeL]))
        rw [h]; rfl
      · have hs : StP [0, 1, 2, 3, 4, 1005, 7, 6, 1008] (vcLd_s1 o0 o1 o2 (.cells cs true)) [(0, o0), (1, o1), (2, o2), (3, tob (slW 4 0)), (4, .cells cs true), (5, .dead), (6, tob (.slice (some (7, 0)) 0 (.known 0))), (7, .cells [] true), (8, .dead)] :=
          .came I.c0 rfl (by kernel_rfl) (.came I.c1 rfl (by kernel_rfl) (.came I.c2 rfl (by kernel_rfl) (.cons 3 (tob (slW 4 0)) rfl (by kernel_rfl) (.of (by kernel_rfl)) (.came (hR.came true) rfl (by kernel_rfl) (.dead (j := 5) (by show 5 < 9; decide)
            (.cons 7 (tob (.slice (some (6, 0)) 0 (.known 0))) rfl (by kernel_rfl) (.of (by kernel_rfl)) (.came (.inr ⟨_, _, rfl, fun c hc => by cases hc⟩) rfl (by kernel_rfl) (.dead (j := 8) (by show 8 < 9; decide) .nil))))))))
        exact Wk.heldX (kb := 3) [0, 1, 2, 3, 4, 1005, 7, 6, 1008] (by kernel_rfl) (by kernel_rfl) [0, 1, 2, 6, 7, 8, 10, 11]
          (frE_cons (by kernel_rfl) (I.k0 _ (by kernel_rfl)) (frE_cons (by kernel_rfl) (I.k1 _ (by kernel_rfl)) (frE_cons (by kernel_rfl) (I.k2 _ (by kernel_rfl)) (by kernel_rfl)))) hs
    | nil =>
      refine (Trip.runY ELok noSum_ok (Eq.mp (vcLf vA vB vC i o0 o1 o2 (QCp vA vB vC o0 o1 o2 [] nilA .dead)) ⟨nilA, .dead, .nil, rfl, ?_⟩)).mono fun q hq => fin hq
      have hs : StP [0, 1, 2, 3, 1004, 1005, 6, 1007, 1008] (vcLf_s0 o0 o1 o2) [(0, o0), (1, o1), (2, o2), (3, tob nilA), (4, .dead), (5, .dead), (6, tob nilA), (7, .dead), (8, .dead)] :=
        .came I.c0 rfl (by kernel_rfl) (.came I.c1 rfl (by kernel_rfl) (.came I.c2 rfl (by kernel_rfl) (.cons 3 (tob nilA) rfl (by kernel_rfl) (.of (by kernel_rfl)) (.dead (j := 4) (by show 4 < 9; decide) (.dead (j := 5) (by show 5 < 9; decide)
          (.cons 6 (tob nilA) rfl (by kernel_rfl) (.of (by kernel_rfl)) (.dead (j := 7) (by show 7 < 9; decide) (.dead (j := 8) (by show 8 < 9; decide) .nil))))))))
      exact Wk.heldX (kb := 3) [0, 1, 2, 3, 1004, 1005, 6, 1007, 1008] (by kernel_rfl) (by kernel_rfl) [0, 1, 2, 6, 7, 8, 10, 11]
        (frE_cons (by kernel_rfl) (I.k0 _ (by kernel_rfl)) (frE_cons (by kernel_rfl) (I.k1 _ (by kernel_rfl)) (frE_cons (by kernel_rfl) (I.k2 _ (by kernel_rfl)) (by kernel_rfl)))) hs
    | zero =>
      refine (Trip.runY ELok noSum_ok (Eq.mp (vcLe vA vB vC i o0 o1 o2 zeroO (QCp vA vB vC o0 o1 o2 [] (.slice (some (4, 0)) 0 (.known 0)) zeroO)) ⟨?_, .slice (some (7, 0)) 0 (.known 0), .cells [] true, .zero, rfl, ?_⟩)).mono fun q hq => fin hq
      · obtain ⟨ei, h1, h2, h⟩ := append_red (E := EL) (s := .slice (some (6, 0)) 0 (.known 0)) (x := .slice (some (4, 0)) 0 (.known 0)) (st := vcLe_s0 o0 o1 o2 zeroO) (n := 0) (new := []) ep35 rfl (first_at (cs := []) (rw := true) (by kernel_rfl) (by simp [takeL]))
        rw [h]; rfl
      · have hs : StP [0, 1, 2, 3, 4, 1005, 7, 6, 1008] (vcLe_s1 o0 o1 o2 zeroO) [(0, o0), (1, o1), (2, o2), (3, tob (.slice (some (4, 0)) 0 (.known 0))), (4, zeroO), (5, .dead), (6, tob (.slice (some (7, 0)) 0 (.known 0))), (7, .cells [] true), (8, .dead)] :=
          .came I.c0 rfl (by kernel_rfl) (.came I.c1 rfl (by kernel_rfl) (.came I.c2 rfl (by kernel_rfl) (.cons 3 (tob (.slice (some (4, 0)) 0 (.known 0))) rfl (by kernel_rfl) (.of (by kernel_rfl)) (.came (.inr ⟨_, _, rfl, fun c hc => by cases hc⟩) rfl (by kernel_rfl) (.dead (j := 5) (by show 5 < 9; decide)
            (.cons 7 (tob (.slice (some (6, 0)) 0 (.known 0))) rfl (by kernel_rfl) (.of (by kernel_rfl)) (.came (.inr ⟨_, _, rfl, fun c hc => by cases hc⟩) rfl (by kernel_rfl) (.dead (j := 8) (by show 8 < 9; decide) .nil))))))))
        exact Wk.heldX (kb := 3) [0, 1, 2, 3, 4, 1005, 7, 6, 1008] (by kernel_rfl) (by kernel_rfl) [0, 1, 2, 6, 7, 8, 10, 11]
          (frE_cons (by kernel_rfl) (I.k0 _ (by kernel_rfl)) (frE_cons (by kernel_rfl) (I.k1 _ (by kernel_rfl)) (frE_cons (by kernel_rfl) (I.k2 _ (by kernel_rfl)) (by kernel_rfl)))) hs
  · obtain ⟨cs, hR, rfl, rfl⟩ := hT.row_of h0
    have hln : 0 < L.length := List.length_pos_iff.2 h0
    rw [(Vw_row h0 5).1, (Vw_row h0 5).2]
    have hrowR : RowR (L.flatMap enc4) L := ⟨enc4_refs, by have := fm_all (enc := enc4) enc4_len (l := L); rw [fm_len enc4_len]; exact this⟩
    refine (Trip.runY ELok noSum_ok (Eq.mp (vcLc vA vB vC L.length i o0 o1 o2 (.cells cs true) (rowW L) (rowW L) (rowW L) (QCp vA vB vC o0 o1 o2 L (slW 4 L.length) (.cells cs true))) ⟨?_, ?_, slW 7 L.length, rowW L, .row hrowR, rfl, ?_⟩)).mono fun q hq => fin hq
    · exact (append_zero_at (cs := []) (rw := true) ep35 rfl (first_at (cs := cs) (rw := true) (by kernel_rfl) (by rw [← fm_len enc4_len]; exact hR.at_)) (by kernel_rfl) hln (by omega) (by omega)).trans (by kernel_rfl)
    · exact (append_nil_at ep27 (x := slW 5 L.length) rfl (first_all (rw := true) (by kernel_rfl)) hln (by omega) (by omega)).trans (by kernel_rfl)
    · have hs : StP [0, 1, 2, 3, 4, 5, 8, 7, 9] (vcLc_s3 L.length o0 o1 o2 (.cells cs true) (rowW L) (rowW L) (rowW L)) [(0, o0), (1, o1), (2, o2), (3, tob (slW 4 L.length)), (4, .cells cs true), (5, rowW L), (6, tob (slW 7 L.length)), (7, rowW L), (8, rowW L)] :=
        .came I.c0 rfl (by kernel_rfl) (.came I.c1 rfl (by kernel_rfl) (.came I.c2 rfl (by kernel_rfl) (.cons 3 (tob (slW 4 L.length)) rfl (by kernel_rfl) (.of (by kernel_rfl)) (.came (hR.came true) rfl (by kernel_rfl) (.came rowW_came rfl (by kernel_rfl)
          (.cons 8 (tob (slW 7 L.length)) rfl (by kernel_rfl) (.of (by kernel_rfl)) (.came rowW_came rfl (by kernel_rfl) (.came rowW_came rfl (by kernel_rfl) .nil))))))))
      rw [(Vw_row h0 5).1, (Vw_row h0 8).1, (Vw_row h0 8).2]
      exact Wk.heldX (kb := 3) [0, 1, 2, 3, 4, 5, 8, 7, 9] (by kernel_rfl) (by kernel_rfl) [0, 1, 2, 6, 7, 8, 10, 11]
        (frE_cons (by kernel_rfl) (I.k0 _ (by kernel_rfl)) (frE_cons (by kernel_rfl) (I.k1 _ (by kernel_rfl)) (frE_cons (by kernel_rfl) (I.k2 _ (by kernel_rfl)) (by kernel_rfl)))) hs
def LawQ (r : Exit × AFr × ASt) : Prop := (r.1 = .normal ∨ r.1 = .ret) ∧ ans (leaveA EL Try.f3 r.2.1 r.2.2) = some (.bool true)
theorem sh3 : dropC 3 c3 = .seq (.seq (seqL (seqL (dropC 3 c3))) (.block 0 (.loop L3a))) (.seq (seqL (dropC 4 c3)) (.seq (.seq (seqL (seqL (dropC 5 c3))) (.block 2 (.loop L3b))) (.seq (.seq (seqL (seqL (dropC 6 c3))) (.block 4 (.loop L3c))) (dropC 7 c3)))) := by kernel_rfl
theorem tailL (I : Ins vA vB vC o0 o1 o2 A0 A1 A2) (hT : TabV 4 L V R) (hT2 : TabV 7 L2 V2 R2) (hL : L.length ≤ 50) (hL2 : L2.length ≤ 50) : Trip Try.prog 3 none (dropC 7 c3) (fr3c vA vB vC (Vw 5 L) (Vw 8 L2) i) (SL2 o0 o1 o2 (tob V) R (Ww L) (tob V2) R2 (Ww L2)) LawQ := by
  have s1 := Call1.mem (by kernel_rfl : _ = vcLz_s1 o0 o1 o2 (tob V) R (Ww L) (tob V2) R2 (Ww L2)) (same_law (S := SL2 o0 o1 o2 (tob V) R (Ww L) (tob V2) R2 (Ww L2)) (a := 3) (.inl rfl) hT (by omega) (by show 3 + 3 ≤ 9; decide) (by kernel_rfl) (by kernel_rfl) (by kernel_rfl) (by kernel_rfl) (by kernel_rfl) (by kernel_rfl))
  have s2 := Call1.mem (by kernel_rfl : _ = vcLz_s2 o0 o1 o2 (tob V) R (Ww L) (tob V2) R2 (Ww L2)) (same_law (S := vcLz_s1 o0 o1 o2 (tob V) R (Ww L) (tob V2) R2 (Ww L2)) (a := 6) (.inr rfl) hT2 (by omega) (by show 6 + 3 ≤ 89; decide) (by kernel_rfl) (by kernel_rfl) (by kernel_rfl) (by kernel_rfl) (by kernel_rfl) (by kernel_rfl))
  have s3 : Call1 Try.prog 7 [] (vcLz_s2 o0 o1 o2 (tob V) R (Ww L) (tob V2) R2 (Ww L2)) (.bool true, vcLz_s2 o0 o1 o2 (tob V) R (Ww L) (tob V2) R2 (Ww L2)) := known_any
  exact (Trip.runY ELok (sum := smL (tabC [_, _, _])) (onlyC_ok (tabC_ok fun e he => by
    simp only [List.mem_cons, List.not_mem_nil, or_false] at he
    rcases he with rfl | rfl | rfl
    · exact s1
    · exact s2
    · exact s3)) (Eq.mp (vcLz (tabC [_, _, _]) vA vB vC (Vw 5 L) (Vw 8 L2) i o0 o1 o2 (tob V) R (Ww L) (tob V2) R2 (Ww L2) (fun q => q = (.ret, some (.bool true))))
      ⟨call_at (onlyC_at rfl (tabC_hd ..)), call_at (onlyC_at rfl ((tabC_tln rfl).trans (tabC_hd ..))), call_at (onlyC_at rfl ((tabC_tlf rfl).trans ((tabC_tlf rfl).trans (tabC_hd ..)))), rfl⟩)).mono fun q hq => ⟨.inr (congrArg Prod.fst hq), congrArg Prod.snd hq⟩
theorem midL (I : Ins vA vB vC o0 o1 o2 A0 A1 A2) (l0 : A0.length ≤ 25) (l1 : A1.length ≤ 25) (l2 : A2.length ≤ 25) : Trip Try.prog 3 none (dropC 3 c3) (xFr [(0, vA), (1, vB), (2, vC), (6, .bool false), (7, pN 3), (8, nilA)] 102) (SL1 o0 o1 o2 (tob nilA) .dead .dead) LawQ := by
  rw [sh3]
  refine Trip.seq (R := fun q => ∃ L V R, L.length ≤ 25 ∧ TabV 4 L V R ∧ Stops 3 .normal (fr3a vA vB vC (Vw 5 L) A0.length) (SL1 o0 o1 o2 (tob V) R (Ww L)) q) (Trip.seqC ELok noSum_ok (n := 60) [0, 1, 2, 6, 7, 8, 9] KO99 (F := fr3a vA vB vC nilA 0) (S := SL1 o0 o1 o2 (tob nilA) .dead .dead) (by kernel_rfl) (loopLa I l0)) (fun fr' st' hq => ?_) (fun e fr' st' hne hq => by obtain ⟨_, _, _, _, _, h, _⟩ := hq; exact absurd h hne)
  obtain ⟨L, V, R, hL, hT, _, hw⟩ := hq
  refine Trip.less hw ?_
  refine Trip.seq (copyStep I hT hL) (fun fr' st' hq => ?_) (fun e fr' st' hne hq => by obtain ⟨_, _, _, h, _⟩ := hq; exact absurd h hne)
  obtain ⟨V2, R2, hT2, _, hw⟩ := hq
  refine Trip.less hw ?_
  refine Trip.seq (R := fun q => ∃ L' V' R', L'.length ≤ 50 ∧ TabV 4 L' V' R' ∧ Stops 3 .normal (fr3b vA vB vC (Vw 5 L') (Vw 8 L) A1.length) (SL2 o0 o1 o2 (tob V') R' (Ww L') (tob V2) R2 (Ww L)) q) (Trip.seqC ELok noSum_ok (n := 60) [0, 1, 2, 6, 7, 8, 10, 11, 12] KO99 (F := fr3b vA vB vC (Vw 5 L) (Vw 8 L) 0) (S := SL2 o0 o1 o2 (tob V) R (Ww L) (tob V2) R2 (Ww L)) (by kernel_rfl) (loopLg I hT hT2 hL l1)) (fun fr' st' hq => ?_) (fun e fr' st' hne hq => by obtain ⟨_, _, _, _, _, h, _⟩ := hq; exact absurd h hne)
  obtain ⟨L', V', R', hL', hT', _, hw⟩ := hq
  refine Trip.less hw ?_
  refine Trip.seq (R := fun q => ∃ L2 V2 R2, L2.length ≤ 50 ∧ TabV 7 L2 V2 R2 ∧ Stops 3 .normal (fr3c vA vB vC (Vw 5 L') (Vw 8 L2) A2.length) (SL2 o0 o1 o2 (tob V') R' (Ww L') (tob V2) R2 (Ww L2)) q) (Trip.less (Wk.can 3 [0, 1, 2, 6, 7, 8, 10, 11] KO99 _ _) ?_) (fun fr' st' hq => ?_) (fun e fr' st' hne hq => by obtain ⟨_, _, _, _, _, h, _⟩ := hq; exact absurd h hne)
  · have e1 : canF [0, 1, 2, 6, 7, 8, 10, 11] (fr3b vA vB vC (Vw 5 L') (Vw 8 L) A1.length) = fr3m vA vB vC (Vw 5 L') (Vw 8 L) := by kernel_rfl
    have e2 : canS KO99 (SL2 o0 o1 o2 (tob V') R' (Ww L') (tob V2) R2 (Ww L)) = SL2 o0 o1 o2 (tob V') R' (Ww L') (tob V2) R2 (Ww L) := by kernel_rfl
    rw [e1, e2]
    exact Trip.seqC ELok noSum_ok (n := 60) [0, 1, 2, 6, 7, 8, 10, 11, 15] KO99 (F := fr3c vA vB vC (Vw 5 L') (Vw 8 L) 0) (S := SL2 o0 o1 o2 (tob V') R' (Ww L') (tob V2) R2 (Ww L)) (by kernel_rfl) (loopLh I hT' hT2 hL l2)
  · obtain ⟨L2, V3, R3, hL2, hT3, _, hw⟩ := hq
    exact Trip.less hw (tailL I hT' hT3 hL' hL2)
theorem law (I : Ins vA vB vC o0 o1 o2 A0 A1 A2) : Trip Try.prog 3 none c3 (F3 vA vB vC) (S3o o0 o1 o2) LawQ := by
  have hk : CallsOK Try.prog (smL (tabC [(7, [], vcLa_s0 o0 o1 o2, (.bool true, vcLa_s0 o0 o1 o2))])) := onlyC_ok (tabC_ok fun e he => by
    simp only [List.mem_cons, List.not_mem_nil, or_false] at he
    subst he; exact known_any)
  refine Trip.preM ELok hk (fn := Try.f3) (k := 3) (kf := [0, 1, 2, 6, 7, 8]) (ko := KO99) (Q1 := fun q => A0.length ≤ 25 ∧ A1.length ≤ 25 ∧ A2.length ≤ 25 ∧ q = (.normal, xFr [(0, vA), (1, vB), (2, vC), (6, .bool false), (7, pN 3), (8, nilA)] 102, vcLa_s1 o0 o1 o2)) (Q2 := fun q => q = (.ret, some (.bool true))) (by kernel_rfl)
    (Eq.mp (vcLa (tabC [_]) vA vB vC A0.length A1.length A2.length o0 o1 o2 _ _) ⟨I.s0.len _, ifB_mk (fun _ => ⟨call_at (onlyC_at rfl (tabC_hd ..)), rfl⟩) fun h1 => ⟨I.s1.len _, ifB_mk (fun _ => ⟨call_at (onlyC_at rfl (tabC_hd ..)), rfl⟩) fun h2 => ⟨I.s2.len _, ifB_mk (fun _ => ⟨call_at (onlyC_at rfl (tabC_hd ..)), rfl⟩) fun h3 => ⟨?_, ?_, ?_, rfl⟩⟩⟩⟩) (fun F S hq => ?_) (fun r hr h => ⟨.inr hr, congrArg Prod.snd h⟩) (fun r h1 h2 h => absurd (congrArg Prod.fst h.2.2.2) h1)
  · rw [ltF_nn] at h1
    have := of_decide_eq_false h1
    omega
  · rw [ltF_nn] at h2
    have := of_decide_eq_false h2
    omega
  · rw [ltF_nn] at h3
    have := of_decide_eq_false h3
    omega
  · obtain ⟨l0, l1, l2, hq⟩ := hq
    cases hq
    have hs : StP [0, 1, 2, 3, 1004, 1005] (vcLa_s1 o0 o1 o2) [(0, o0), (1, o1), (2, o2), (3, tob nilA), (4, .dead), (5, .dead)] :=
      .came I.c0 rfl (by kernel_rfl) (.came I.c1 rfl (by kernel_rfl) (.came I.c2 rfl (by kernel_rfl) (.cons 3 (tob nilA) rfl (by kernel_rfl) (.of (by kernel_rfl)) (.dead (j := 4) (by show 4 < 6; decide) (.dead (j := 5) (by show 5 < 6; decide) .nil)))))
    refine Trip.less (Wk.heldX (kb := 3) [0, 1, 2, 3, 1004, 1005] (by kernel_rfl) (by kernel_rfl) [0, 1, 2, 6, 7, 8]
      (frE_cons (by kernel_rfl) (I.k0 _ (by kernel_rfl)) (frE_cons (by kernel_rfl) (I.k1 _ (by kernel_rfl)) (frE_cons (by kernel_rfl) (I.k2 _ (by kernel_rfl)) (by kernel_rfl)))) hs) (midL I l0 l1 l2)
end
end Go.Proofs.Ytelehjeifhelnaa.ovp
end

section
open Go Go.Ax Go.Proofs.Ytelehjeifhelnaa
namespace Go.Proofs.Ytelehjeifhelnaa.ovp
set_option linter.unusedVariables false
noncomputable section
open Go.ChangeShapes Go.WideShapes Go.ChangeAt Go.RowKit Go.Deep
section
variable {H : Type} {enc : TypeId × Value → H} {P : Program} {w : World} {base : Nat} {spare : Nat → Bool} {held : Bool} {fuel : Nat} {t : TypeId} {cs : List Value} {x : DataW H × List MemPlace}
theorem fieldOf {fs : Array Field} (ht : P.underlying t = some (.struct fs)) (h : DataW.trod enc P w base spare held fuel t cs = some x) {i : Nat} {f : Field} (hi : fs[i]? = some f) :
    ∃ n y, DataW.trod enc P w base spare held n f.type ((cs.drop f.offset).take (P.cellsOf f.type)) = some y := by
  obtain ⟨xs, n, _, _, _, hl, hf⟩ := DataW.trod_struct ht h
  have h1 := (Array.getElem?_eq_some_iff.1 hi).1
  exact ⟨n, xs[i]'(by omega), by rw [hf i f hi]; simp⟩
theorem one_int {k : IntKind} {o : Nat} (ht : P.underlying t = some (.int k)) (h : DataW.trod enc P w base spare held fuel t ((cs.drop o).take 1) = some x) : ∃ z, cs[o]? = some (.int k z) := by
  obtain ⟨z, e, _, hw⟩ := DataW.trod_int ht h
  refine ⟨z, ?_⟩
  have : ((cs.drop o).take 1)[0]? = some (.int k z) := by rw [e]; rfl
  simpa using this
theorem one_bool {o : Nat} (ht : P.underlying t = some .bool) (h : DataW.trod enc P w base spare held fuel t ((cs.drop o).take 1) = some x) : ∃ z, cs[o]? = some (.bool z) := by
  obtain ⟨z, e, _⟩ := DataW.trod_bool ht h
  refine ⟨z, ?_⟩
  have : ((cs.drop o).take 1)[0]? = some (.bool z) := by rw [e]; rfl
  simpa using this
end
theorem own : ownKnob Try.prog.godebug = none := by kernel_rfl
theorem laidOut : laidOutB Try.prog = true := by kernel_rfl
theorem same_below {W W' : World} (h : Below W.heap.size W W') {p : MemPlace} (hp : p.block < W.heap.size) : W.sameAt W' p := by
  cases p with
  | cell b off => exact h.cell (p := ⟨b, off, none⟩) hp
  | map b => exact h.block b hp
theorem spot_none {W : World} {a : Addr} {v : Value} (h : W.cell? (a.add 0) = some v) : a.spot = none := by
  obtain ⟨b, off, spot⟩ := a
  cases spot with
  | none => rfl
  | some s =>
    unfold World.cell? at h
    simp only [Addr.add, if_true] at h
    split at h
    · simp at h
    · cases h
def valA (q : AC) : List Value := [.int .i64 q.kd, .int .u64 q.num, .int .i64 q.blk, .bool q.wr]
theorem act_of {H : Type} {enc : TypeId × Value → H} {W : World} {base fuel : Nat} {spare : Nat → Bool} {held : Bool} {cs : List Value} {x : DataW H × List MemPlace} (h : DataW.trod enc Try.prog W base spare held fuel 32 cs = some x) : ∃ q : AC, cs = valA q := by
  have hlen : cs.length = 4 := by
    obtain ⟨_, _, _, _, hl, _⟩ := DataW.trod_struct Try.underlying32 h
    rw [hl]; kernel_rfl
  have c3' : Try.prog.cellsOf 3 = 1 := by kernel_rfl
  have c30 : Try.prog.cellsOf 30 = 1 := by kernel_rfl
  have c4 : Try.prog.cellsOf 4 = 1 := by kernel_rfl
  obtain ⟨n0, g0, k0⟩ := fieldOf Try.underlying32 h (i := 0) rfl
  obtain ⟨n1, g1, k1⟩ := fieldOf Try.underlying32 h (i := 1) rfl
  obtain ⟨n2, g2, k2⟩ := fieldOf Try.underlying32 h (i := 2) rfl
  obtain ⟨n3, g3, k3⟩ := fieldOf Try.underlying32 h (i := 3) rfl
  replace k0 : DataW.trod enc Try.prog W base spare held n0 3 ((cs.drop 0).take (Try.prog.cellsOf 3)) = some g0 := k0
  replace k1 : DataW.trod enc Try.prog W base spare held n1 30 ((cs.drop 1).take (Try.prog.cellsOf 30)) = some g1 := k1
  replace k2 : DataW.trod enc Try.prog W base spare held n2 3 ((cs.drop 2).take (Try.prog.cellsOf 3)) = some g2 := k2
  replace k3 : DataW.trod enc Try.prog W base spare held n3 4 ((cs.drop 3).take (Try.prog.cellsOf 4)) = some g3 := k3
  rw [c3'] at k0 k2
  rw [c30] at k1
  rw [c4] at k3
  obtain ⟨k, e0⟩ := one_int Try.underlying3 k0
  obtain ⟨n, e1⟩ := one_int Try.underlying30 k1
  obtain ⟨b, e2⟩ := one_int Try.underlying3 k2
  obtain ⟨y, e3⟩ := one_bool Try.underlying4 k3
  refine ⟨⟨k, n, b, y⟩, ?_⟩
  match cs, hlen with
  | [x0, x1, x2, x3], _ =>
    simp at e0 e1 e2 e3
    rw [e0, e1, e2, e3]; rfl
theorem arg_acts {W : World} (j : Nat) {a : Addr} {len cap : Nat} (hl : len ≤ cap) {q : Nat → AC} (hi : ∀ i, i < len → ∀ (k : Nat) x, (valA (q i))[k]? = some x → W.cell? (a.add (i * 4 + k)) = some x) :
    ∃ (l : List AC) (vl : AV) (o : AO) (r : Option (Nat × Nat × List AV)), ArgAt EL W 22 4 j l.length (.slice (some a) len cap) (l.flatMap encA) vl o r := by
  by_cases h0 : len = 0
  · subst h0
    exact ⟨[], _, _, _, ArgAt.mk_zero el22⟩
  · have hsp := spot_none (show W.cell? (a.add 0) = some (.int .i64 (q 0).kd) from hi 0 (by omega) 0 _ rfl)
    obtain ⟨b, off, spot⟩ := a
    simp only at hsp
    subst hsp
    have hlen : ((List.range len).map q).length = len := by simp
    refine ⟨(List.range len).map q, .slice (some (j, 0)) len (.atl len), .cells (((List.range len).map q).flatMap encA) false, some (b, off, ((List.range len).map q).flatMap encA), ?_⟩
    rw [hlen]
    have := ArgAt.mk_row (E := EL) (W := W) (t := 22) (z := 4) (i := j) (n := len) (b := b) (off := off) (cap := cap) (cs := ((List.range len).map q).flatMap encA) el22
      (by intro e; have := congrArg List.length e; rw [fm_len encA_len, hlen] at this; simp at this; omega) hl (fun k v hk => ?_)
    · exact this
    · have hk4 : k < len * 4 := by
        have := (List.getElem?_eq_some_iff.1 hk).1
        rw [fm_len encA_len, hlen] at this; exact this
      have hd : k / 4 < len := by omega
      have hp : ((List.range len).map q)[k / 4]? = some (q (k / 4)) := by simp [hd]
      have hr : k % 4 < (encA (q (k / 4))).length := by rw [encA_len]; exact Nat.mod_lt _ (by decide)
      have hv := fm_get (enc := encA) encA_len hp (List.getElem?_eq_getElem hr)
      rw [show k / 4 * 4 + k % 4 = k by omega] at hv
      have hkv : (encA (q (k / 4)))[k % 4]? = some v := by
        rw [List.getElem?_eq_getElem hr]
        exact hv.symm.trans hk
      have at_ : ∀ n x, k % 4 = n → (valA (q (k / 4)))[n]? = some x → W.cell? ⟨b, off + k, none⟩ = some x := fun n x hn hx => by
        have := hi (k / 4) hd n x hx
        rw [add_none] at this
        rw [show off + k = off + (k / 4 * 4 + n) by omega]
        exact this
      have hlt : k % 4 < 4 := Nat.mod_lt _ (by decide)
      have h4 : k % 4 = 0 ∨ k % 4 = 1 ∨ k % 4 = 2 ∨ k % 4 = 3 := by omega
      rcases h4 with h4 | h4 | h4 | h4 <;> rw [h4] at hkv <;> (simp [encA] at hkv; subst hkv)
      · exact ⟨rfl, _, at_ 0 _ h4 rfl, fun ι => .int _ _⟩
      · exact ⟨rfl, _, at_ 1 _ h4 rfl, fun ι => .int _ _⟩
      · exact ⟨rfl, _, at_ 2 _ h4 rfl, fun ι => .int _ _⟩
      · exact ⟨rfl, _, at_ 3 _ h4 rfl, fun ι => .bool _⟩
theorem pick_lt {α : Type} [Inhabited α] {n : Nat} {p : Nat → α → Prop} (h : ∀ i, i < n → ∃ q, p i q) : ∃ q : Nat → α, ∀ i, i < n → p i (q i) := by
  classical
  refine ⟨fun i => if hi : i < n then Classical.choose (h i hi) else default, fun i hi => ?_⟩
  simp only [hi, dif_pos]
  exact Classical.choose_spec (h i hi)
theorem acts_arg {H : Type} {enc : TypeId × Value → H} {W : World} {fuel : Nat} {spare : Nat → Bool} {held : Bool} {v : Value} {x : DataW H × List MemPlace} (j : Nat) (h : DataW.trod enc Try.prog W 0 spare held fuel 22 [v] = some x) :
    ∃ (l : List AC) (vl : AV) (o : AO) (r : Option (Nat × Nat × List AV)), ArgAt EL W 22 4 j l.length v (l.flatMap encA) vl o r := by
  rcases open_slice Try.underlying22 h with ⟨hcs, _⟩ | ⟨a, len, cap, m, n, D, Pl, hcs, _, hl, _, hmm, _, hx⟩
  · simp at hcs
    subst hcs
    exact ⟨[], _, _, _, ArgAt.mk_nil el22⟩
  · simp at hcs
    subst hcs
    have hlm : len ≤ m := by rw [hmm]; split <;> omega
    have c32 : Try.prog.cellsOf 32 = 4 := by kernel_rfl
    have each : ∀ i, i < len → ∃ q : AC, ∀ (k : Nat) x, (valA q)[k]? = some x → W.cell? (a.add (i * 4 + k)) = some x := fun i hi => by
      obtain ⟨cs', h1, h2⟩ := hx i (by omega)
      rw [c32] at h1
      obtain ⟨_, hlen, hcell⟩ := World.cells?_some h1
      obtain ⟨q, hq⟩ := act_of h2
      refine ⟨q, fun k y hy => ?_⟩
      have hk : k < 4 := by
        have := (List.getElem?_eq_some_iff.1 hy).1
        simpa [valA] using this
      have e := hcell k (by omega)
      rw [add_add] at e
      rw [e, hq]
      exact hy
    haveI : Inhabited AC := ⟨⟨0, 0, 0, false⟩⟩
    obtain ⟨q, hq⟩ := pick_lt each
    exact arg_acts j hl hq
def rows3 (r0 r1 r2 : Option (Nat × Nat × List AV)) : Nat → Option (Nat × Nat × List AV)
  | 0 => r0
  | 1 => r1
  | 2 => r2
  | _ => none
theorem walk {W : World} {v0 v1 v2 : Value} {l0 l1 l2 : List AC} {u0 u1 u2 : AV} {o0 o1 o2 : AO} {r0 r1 r2 : Option (Nat × Nat × List AV)}
    (A0 : ArgAt EL W 22 4 0 l0.length v0 (l0.flatMap encA) u0 o0 r0) (A1 : ArgAt EL W 22 4 1 l1.length v1 (l1.flatMap encA) u1 o1 r1) (A2 : ArgAt EL W 22 4 2 l2.length v2 (l2.flatMap encA) u2 o2 r2) :
    Calls Try.prog 3 #[v0, v1, v2] W fun e w' => e = .returned (.bool true) ∧ Below W.heap.size W w' := by
  have hgl : GlobOK W := by intro _ _ h; cases h
  have hrow : ∀ i r, rows3 r0 r1 r2 i = some r → r.2.2 ≠ [] ∧ RowAt W r.1 r.2.1 r.2.2 := fun i r h => by
    match i, h with
    | 0, h => exact A0.row r h
    | 1, h => exact A1.row r h
    | 2, h => exact A2.row r h
  have hsr := rowsO_ok hgl (n := 3) (rows := rows3 r0 r1 r2) hrow (st := S3o o0 o1 o2) rfl (fun i a hi => by
    rcases get3 (o0 := o0) (o1 := o1) (o2 := o2) hi with ⟨rfl, rfl⟩ | ⟨rfl, rfl⟩ | ⟨rfl, rfl⟩
    · exact ⟨by omega, A0.obj⟩
    · exact ⟨by omega, A1.obj⟩
    · exact ⟨by omega, A2.obj⟩)
  have w0 : VR (rowsRen W 3 (rows3 r0 r1 r2)) u0 v0 := A0.vr _ fun q hq => rowsRen_at (i := 0) (by omega) hq (A0.row q hq).1 (A0.row q hq).2
  have w1 : VR (rowsRen W 3 (rows3 r0 r1 r2)) u1 v1 := A1.vr _ fun q hq => rowsRen_at (i := 1) (by omega) hq (A1.row q hq).1 (A1.row q hq).2
  have w2 : VR (rowsRen W 3 (rows3 r0 r1 r2)) u2 v2 := A2.vr _ fun q hq => rowsRen_at (i := 2) (by omega) hq (A2.row q hq).1 (A2.row q hq).2
  have hv : VRs (rowsRen W 3 (rows3 r0 r1 r2)) [u0, u1, u2] #[v0, v1, v2] := ⟨rfl, fun i x x' hx hx' => by
    match i with
    | 0 => simp at hx hx'; subst hx; subst hx'; exact w0
    | 1 => simp at hx hx'; subst hx; subst hx'; exact w1
    | 2 => simp at hx hx'; subst hx; subst hx'; exact w2
    | i + 3 => simp at hx⟩
  have hfr : ({ m := putArgs [u0, u1, u2] 0 .e, n := Try.f3.ntmps, defs := [] } : AFr) = F3 u0 u1 u2 := by kernel_rfl
  refine law_calls ELok (fn := Try.f3) (by kernel_rfl) (c := c3) (by kernel_rfl) (by kernel_rfl) (fun _ h => h) (fun k hk => .inr hk) hsr hv ?_
  rw [hfr]
  exact law ⟨A0.sl, A1.sl, A2.sl, A0.came encA_refs, A1.came encA_refs, A2.came encA_refs, A0.kept 3 (by omega), A1.kept 3 (by omega), A2.kept 3 (by omega)⟩
set_option maxRecDepth 100000 in
theorem lifted (os : Os) (started : os.Started) (H : Type) (enc : TypeId × Value → H) :
    ReturnsInHanded {} Try.checked os 3 .any (Rows.overlapApartSpec.pre6 enc Try.prog Try.f3 Rows.overlapApartRow.domain false) (Rows.overlapApartSpec.post enc Try.prog Try.f3 false true false false) := by
  refine returnsInHanded_of_change (C := Try.checked) own started (by kernel_rfl) Try.func3
    (ChangeSpec.witness6 (enc := enc) (C := Try.checked) false ⟨#[], #[.slice none 0 0, .slice none 0 0, .slice none 0 0], []⟩ 8 (by kernel_rfl) (by kernel_rfl) (by kernel_rfl) (by kernel_rfl)) ?_
  intro W base args ds gs before hval0 hW hcnd _
  have hval : ∀ (j : Nat) t v, Try.f3.params[j]? = some t → args[j]? = some v → Value.okWide Try.prog W .any base t v := hval0
  have hW' := hW
  obtain ⟨p, q, hA0, hV, rfl, hfz, hnd⟩ := hW
  have hA : DataW.TrodAll enc Try.prog W 0 (fun _ => true) true Try.f3.params.toList args.toList ds p := hA0
  rw [Try.params3] at hA hval
  obtain ⟨v0, v1, v2, d0, d1, d2, p0, p1, p2, rfl, rfl, rfl, h0, h1, h2⟩ := trodAll_three hA
  obtain ⟨rfl, rfl⟩ := trodVars_none hV
  obtain ⟨a0, len0, cap0, rfl⟩ := okWide_slice Try.underlying22 (hval 0 22 v0 rfl rfl)
  obtain ⟨a1, len1, cap1, rfl⟩ := okWide_slice Try.underlying22 (hval 1 22 v1 rfl rfl)
  obtain ⟨a2, len2, cap2, rfl⟩ := okWide_slice Try.underlying22 (hval 2 22 v2 rfl rfl)
  have h0k := h0
  have h1k := h1
  have h2k := h2
  obtain ⟨fu0, hf0⟩ := h0
  obtain ⟨fu1, hf1⟩ := h1
  obtain ⟨fu2, hf2⟩ := h2
  clear hA0 hval0
  simp only [List.append_nil] at hW'
  have hlt : ∀ x ∈ p0 ++ (p1 ++ p2), x.block < W.heap.size := fun x hx => hW'.lt x (by simpa using hx)
  have hcs : ∀ a len cap, (Value.slice a len cap).cells.toList = [.slice a len cap] := fun a len cap => by simp [Value.cells]
  rw [hcs] at hf0 hf1 hf2
  obtain ⟨l0, u0, o0, r0, A0⟩ := acts_arg 0 hf0
  obtain ⟨l1, u1, o1, r1, A1⟩ := acts_arg 1 hf1
  obtain ⟨l2, u2, o2, r2, A2⟩ := acts_arg 2 hf2
  refine (walk A0 A1 A2).mono fun e W' ⟨he, bel⟩ => ?_
  subst he
  have ARG0 : DataW.Trod enc Try.prog W' 0 (fun x => decide (x < W.heap.size)) true 22 (.slice a0 len0 cap0) d0 p0 :=
    WideElems.Trod_stays laidOut (by kernel_rfl) (of_decide_eq_true (by kernel_rfl)) h0k (fun x hx => same_below bel (hlt x (List.mem_append_left _ hx))) (fun x hx => by simpa using hlt x (List.mem_append_left _ hx))
  have ARG1 : DataW.Trod enc Try.prog W' 0 (fun x => decide (x < W.heap.size)) true 22 (.slice a1 len1 cap1) d1 p1 :=
    WideElems.Trod_stays laidOut (by kernel_rfl) (of_decide_eq_true (by kernel_rfl)) h1k (fun x hx => same_below bel (hlt x (List.mem_append_right _ (List.mem_append_left _ hx)))) (fun x hx => by simpa using hlt x (List.mem_append_right _ (List.mem_append_left _ hx)))
  have ARG2 : DataW.Trod enc Try.prog W' 0 (fun x => decide (x < W.heap.size)) true 22 (.slice a2 len2 cap2) d2 p2 :=
    WideElems.Trod_stays laidOut (by kernel_rfl) (of_decide_eq_true (by kernel_rfl)) h2k (fun x hx => same_below bel (hlt x (List.mem_append_right _ (List.mem_append_right _ hx)))) (fun x hx => by simpa using hlt x (List.mem_append_right _ (List.mem_append_right _ hx)))
  exact ⟨_, rfl, _, _, _, [], _, [], hW', trodAll_mk1 (shut_bool Try.underlying4 _), trodAll_mk3 ARG0 ARG1 ARG2, rfl, bel.frame _, fun h => by cases h⟩
theorem over : Rows.overlapApartRow.holds Try.pinned (OpenSpec.ofChange Rows.overlapApartSpec) :=
  OpenClaim.holds_of_wide 3 Try.f3 rfl rfl rfl rfl rfl rfl rfl ⟨rfl, rfl, rfl, rfl, rfl⟩ rfl rfl rfl rfl rfl (by kernel_rfl) Try.func3 (by kernel_rfl)
    (of_decide_eq_true (by kernel_rfl)) (by unfold Func.isWrapper; first | (rw [if_pos (by decide +kernel)]; kernel_rfl) | (rw [if_neg (by decide +kernel)]; exact ⟨rfl, rfl⟩))
    (fun os started H enc _ => lifted os started H enc)
theorem proved : Rows.OverlapApartSaid := over
end
#print axioms proved
end Go.Proofs.Ytelehjeifhelnaa.ovp
end
