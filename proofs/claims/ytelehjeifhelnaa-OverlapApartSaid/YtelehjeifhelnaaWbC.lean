/-
  OWN WORK, A PART: an abstract machine for the program's text that the kernel can run, and the proof that it is sound: what it answers is what the program answers; contracts of functions by it. No condition.
-/
import Derived.Test.YtelehjeifhelnaaWbB
section
open Go Go.Ax Go.Proofs
namespace Go.Proofs.Ytelehjeifhelnaa.ovp
set_option linter.unusedVariables false
noncomputable def fnsD : List (Nat × Func) := [(13, Try.f13), (14, Try.f14), (48, Try.f48), (40, Try.f40), (41, Try.f41), (43, Try.f43), (47, Try.f47)]
noncomputable def ED : Env := envEx Try.prog [0, 3, 4, 5, 22, 24, 27, 30, 32, 35, 37, 39, 42, 77, 81, 84] fnsD []
noncomputable def smD (q : CallT) : CallT := onlyC [44, 65] q
noncomputable def S3 (V : AV) (R O : AO) : ASt := mkSt [(0, tob V), (1, R), (2, O)] 3
def p0 : AV := .ptr (some (0, 0))
-- those
noncomputable def c48 : Code := Option.getD Try.f48.body .skip
noncomputable def L48 : Code := lopB (blkB (seqR (seqL (dropC 1 c48))))
noncomputable def fr48 (w : Bool) (V : AV) (n i : Nat) : AFr := xFr [(0, p0), (1, .bool w), (4, V), (13, slT n), (14, nI n), (15, nI i)] 30
noncomputable def tVa (w : Bool) (n : Nat) (R : AO) : Tr (Exit × AFr × ASt) := (TM ED noSum [] fl0 60).ex fl0 none (preC 1 c48) { m := putArgs [p0, .bool w] 0 .e, n := 30, defs := [] } (mkSt [(0, tob (slT n)), (1, R)] 2)
noncomputable def tVi (w : Bool) (n : Nat) (R O : AO) : Tr (Exit × AFr × ASt) := (TM ED noSum [] fl0 60).ex fl0 none (seqL (seqL (dropC 1 c48))) (xFr [(0, p0), (1, .bool w), (4, .slice none 0 (.known 0))] 30) (S3 (slT n) R O)
noncomputable def tVr (w y : Bool) (V : AV) (n i k : Nat) (a b : Int) (u : Bool) (R O N : AO) : Tr (Exit × AFr × ASt) := (TM ED noSum [] fl0 60).ex ⟨[17, 18, 27], [], [16, 22], []⟩ none L48 (fr48 w V n i) (S3 (slT n) R O)
-- Clear
noncomputable def c14 : Code := Option.getD Try.f14.body .skip
noncomputable def L14 : Code := lopB (blkB (seqR (seqL (dropC 1 c14))))
noncomputable def fr14 (V : AV) (n i : Nat) : AFr := xFr [(0, p0), (2, V), (11, slT n), (12, nI n), (13, nI i)] 27
noncomputable def tWa (n : Nat) (R : AO) : Tr (Exit × AFr × ASt) := (TM ED noSum [] fl0 60).ex fl0 none (preC 1 c14) { m := putArgs [p0] 0 .e, n := 27, defs := [] } (mkSt [(0, tob (slT n)), (1, R)] 2)
noncomputable def tWi (n : Nat) (R O : AO) : Tr (Exit × AFr × ASt) := (TM ED noSum [] fl0 60).ex fl0 none (seqL (seqL (dropC 1 c14))) (xFr [(0, p0), (2, .slice none 0 (.known 0))] 27) (S3 (slT n) R O)
noncomputable def tWr (y : Bool) (V : AV) (n i k : Nat) (a b : Int) (u : Bool) (R O N : AO) : Tr (Exit × AFr × ASt) := (TM ED noSum [] fl0 60).ex ⟨[15, 16, 21], [], [14], []⟩ none L14 (fr14 V n i) (S3 (slT n) R O)
-- Done
noncomputable def c13 : Code := Option.getD Try.f13.body .skip
noncomputable def L13 : Code := lopB (blkB (seqR (seqL (dropC 4 c13))))
def slK (n : Nat) : AV := .slice (some (2, 0)) n (.rest 4)
noncomputable def S4 (n : Nat) (R O : AO) : ASt := mkSt [(0, tob (slK n)), (1, .dead), (2, R), (3, O)] 4
noncomputable def fr13 (V : AV) (n i : Nat) : AFr := xFr [(0, p0), (4, V), (5, .int .i64 0), (32, slK n), (33, nI n), (34, nI i)] 68
noncomputable def flD : List (Nat × Fl) := [(43, ⟨[10], [], [], []⟩), (41, ⟨[7], [], [], []⟩), (47, ⟨[13, 16, 22, 25, 26, 31, 4095], [], [], []⟩), (40, fl0)]
noncomputable def fr13a (m : Int) : AFr := { m := putArgs [p0, .int .u64 m] 0 .e, n := 68, defs := [] }
noncomputable def tXn (q : CallT) (n : Nat) (m : Int) (R : AO) : Tr (AV × ASt) := (TM ED (smD q) ((13, ⟨[], [14, 22, 26], [], []⟩) :: flD) fl0 60).call 13 [p0, .int .u64 m] (mkSt [(0, tob (slT n)), (1, R)] 2)
noncomputable def tXe (q : CallT) (V : AV) (m : Int) : Tr (AV × ASt) := (TM ED (smD q) ((13, ⟨[], [14, 22, 26], [], []⟩) :: flD) fl0 60).call 13 [p0, .int .u64 m] (mkSt [(0, tob V), (1, .dead)] 2)
noncomputable def tXa (q : CallT) (k i : Nat) (m : Int) (V1 V2 V3 V4 : AV) (R C M N : AO) : Tr (Exit × AFr × ASt) := (TM ED (smD q) flD fl0 60).ex ⟨[], [14, 22, 26], [16], []⟩ none (preC 4 c13) (fr13a m) (mkSt [(0, tob (slT (k + 1))), (1, R)] 2)
noncomputable def tXi (n : Nat) (m : Int) (R : AO) : Tr (Exit × AFr × ASt) := (TM ED noSum [] fl0 60).ex fl0 none (seqL (seqL (dropC 4 c13))) (xFr [(0, p0), (1, .int .u64 m), (4, nilA), (5, .int .i64 (.ofNat 0))] 68) (S4 n R .dead)
noncomputable def tXs (q : CallT) (V : AV) (n i k : Nat) (a b : Int) (u : Bool) (R R1 O N : AO) : Tr (Exit × AFr × ASt) := (TM ED (smD q) [] fl0 60).ex ⟨[37, 38, 48, 51, 59, 4095, 65], [], [35], []⟩ none L13 (fr13 V n i) (S4 n R O)
noncomputable def tXt (q : CallT) (V : AV) (n i k : Nat) (a b : Int) (u : Bool) (R R1 O N : AO) : Tr (Exit × AFr × ASt) := (TM ED (smD q) [] fl0 60).ex ⟨[37, 38, 48, 51, 59, 4095, 65], [], [35], []⟩ none L13 (fr13 V n i) (S4 n R O)
noncomputable def tXu (q : CallT) (V : AV) (n i k : Nat) (a b : Int) (u : Bool) (R R1 O N : AO) : Tr (Exit × AFr × ASt) := (TM ED (smD q) [] fl0 60).ex ⟨[37, 38, 48, 51, 59, 4095, 65], [], [35], []⟩ none L13 (fr13 V n i) (S4 n R O)
noncomputable def vcVa_s0 (n : Nat) (R : AO) : ASt := mkSt [(0, .cells [.bool true, .slice (some (1, 0)) n (.rest 4)] true), (1, R)] 2
theorem vcVa (w : Bool) (n : Nat) (R : AO) (Q : Exit × AFr × ASt → Prop) :
  (Q (.normal, xFr [(0, .ptr (some (0, 0))), (1, .bool w), (4, .slice none 0 (.known 0))] 30, vcVa_s0 n R)) =
  (tVa w n R).allY (fun r => Q (canR [0, 1, 4] [0, 1] r)) (.nil) := by kernel_rfl
noncomputable def vcVi_s0 (n : Nat) (R : AO) (O : AO) : ASt := mkSt [(0, .cells [.bool true, .slice (some (1, 0)) n (.rest 4)] true), (1, R), (2, O)] 3
theorem vcVi (w : Bool) (n : Nat) (R : AO) (O : AO) (Q : Exit × AFr × ASt → Prop) :
  (Q (.normal, xFr [(0, .ptr (some (0, 0))), (1, .bool w), (4, .slice none 0 (.known 0)), (13, .slice (some (1, 0)) n (.rest 4)), (14, .int .i64 (.ofNat n)), (15, .int .i64 (.ofNat 0))] 30, vcVi_s0 n R O)) =
  (tVi w n R O).allY (fun r => Q (canR [0, 1, 4, 13, 14, 15] [0, 1, 2] r)) (.nil) := by kernel_rfl
noncomputable def vcVr_s0 (n : Nat) (R : AO) (O : AO) : ASt := mkSt [(0, .cells [.bool true, .slice (some (1, 0)) n (.rest 4)] true), (1, R), (2, O)] 3
noncomputable def vcVr_s1 (y : Bool) (n : Nat) (a : Int) (b : Int) (u : Bool) (R : AO) (O : AO) : ASt := mkSt [(0, .cells [.bool true, .slice (some (1, 0)) n (.rest 4)] true), (1, R), (2, O), (3, .cells [.int .u64 a, .int .i64 b, .bool u, .bool y] true), (4, .cells [.int .u64 a] true)] 5
noncomputable def vcVr_s2 (y : Bool) (n : Nat) (a : Int) (b : Int) (u : Bool) (R : AO) (N : AO) : ASt := mkSt [(0, .cells [.bool true, .slice (some (1, 0)) n (.rest 4)] true), (1, R), (2, .dead), (3, .cells [.int .u64 a, .int .i64 b, .bool u, .bool y] true), (4, .cells [.int .u64 a] true), (5, N)] 6
noncomputable def vcVr_s3 (y : Bool) (n : Nat) (a : Int) (b : Int) (u : Bool) (R : AO) (O : AO) : ASt := mkSt [(0, .cells [.bool true, .slice (some (1, 0)) n (.rest 4)] true), (1, R), (2, O), (3, .cells [.int .u64 a, .int .i64 b, .bool u, .bool y] true)] 4
theorem vcVr (w : Bool) (y : Bool) (V : AV) (n : Nat) (i : Nat) (k : Nat) (a : Int) (b : Int) (u : Bool) (R : AO) (O : AO) (N : AO) (Q : Exit × AFr × ASt → Prop) :
  (ifB (ltF (.ofNat i) (.ofNat n)) (still (vcVr_s0 n R O) (aIndexAddr ED 35 (.slice (some (1, 0)) n (.rest 4)) (.int .i64 (.ofNat i))) = some (.ptr (some (1, i * 4)), vcVr_s0 n R O) ∧ aLoad ED 81 (.ptr (some (1, i * 4))) (vcVr_s0 n R O) = some (.agg [.int .u64 a, .int .i64 b, .bool u, .bool y], vcVr_s0 n R O) ∧ ifB (boolEq y w) (aBuiltinM ED .append [42, 42] [V, .slice (some (4, 0)) 1 (.known 1)] (vcVr_s1 y n a b u R O) = some (.slice (some (5, 0)) (k + 1) (.rest 1), vcVr_s2 y n a b u R N) ∧ Q (.normal, xFr [(0, .ptr (some (0, 0))), (1, .bool w), (4, .slice (some (5, 0)) (k + 1) (.rest 1)), (13, .slice (some (1, 0)) n (.rest 4)), (14, .int .i64 (.ofNat n)), (15, .int .i64 (wrapF .i64 (.ofNat i + .ofNat 1)))] 30, vcVr_s2 y n a b u R N)) (Q (.normal, xFr [(0, .ptr (some (0, 0))), (1, .bool w), (4, V), (13, .slice (some (1, 0)) n (.rest 4)), (14, .int .i64 (.ofNat n)), (15, .int .i64 (wrapF .i64 (.ofNat i + .ofNat 1)))] 30, vcVr_s3 y n a b u R O))) (Q (.exit 0, xFr [(0, .ptr (some (0, 0))), (1, .bool w), (4, V), (13, .slice (some (1, 0)) n (.rest 4)), (14, .int .i64 (.ofNat n)), (15, .int .i64 (.ofNat i))] 30, vcVr_s0 n R O))) =
  (tVr w y V n i k a b u R O N).allY (fun r => Q (canR [0, 1, 4, 13, 14, 15] [0, 1, 2, 3, 4, 5, 6, 7, 8, 9, 10, 11, 12, 13, 14, 15, 16, 17, 18, 19, 20, 21, 22, 23, 24, 25, 26, 27, 28, 29, 30] r)) (.b (.v (.ptr (some (1, i * 4)), vcVr_s0 n R O) (.v (.agg [.int .u64 a, .int .i64 b, .bool u, .bool y], vcVr_s0 n R O) (.b (.v (.slice (some (5, 0)) (k + 1) (.rest 1), vcVr_s2 y n a b u R N) .nil) .nil))) .nil) := by kernel_rfl
noncomputable def vcWa_s0 (n : Nat) (R : AO) : ASt := mkSt [(0, .cells [.bool true, .slice (some (1, 0)) n (.rest 4)] true), (1, R)] 2
theorem vcWa (n : Nat) (R : AO) (Q : Exit × AFr × ASt → Prop) :
  (Q (.normal, xFr [(0, .ptr (some (0, 0))), (2, .slice none 0 (.known 0))] 27, vcWa_s0 n R)) =
  (tWa n R).allY (fun r => Q (canR [0, 2] [0, 1] r)) (.nil) := by kernel_rfl
noncomputable def vcWi_s0 (n : Nat) (R : AO) (O : AO) : ASt := mkSt [(0, .cells [.bool true, .slice (some (1, 0)) n (.rest 4)] true), (1, R), (2, O)] 3
theorem vcWi (n : Nat) (R : AO) (O : AO) (Q : Exit × AFr × ASt → Prop) :
  (Q (.normal, xFr [(0, .ptr (some (0, 0))), (2, .slice none 0 (.known 0)), (11, .slice (some (1, 0)) n (.rest 4)), (12, .int .i64 (.ofNat n)), (13, .int .i64 (.ofNat 0))] 27, vcWi_s0 n R O)) =
  (tWi n R O).allY (fun r => Q (canR [0, 2, 11, 12, 13] [0, 1, 2] r)) (.nil) := by kernel_rfl
noncomputable def vcWr_s0 (n : Nat) (R : AO) (O : AO) : ASt := mkSt [(0, .cells [.bool true, .slice (some (1, 0)) n (.rest 4)] true), (1, R), (2, O)] 3
noncomputable def vcWr_s1 (y : Bool) (n : Nat) (a : Int) (b : Int) (u : Bool) (R : AO) (O : AO) : ASt := mkSt [(0, .cells [.bool true, .slice (some (1, 0)) n (.rest 4)] true), (1, R), (2, O), (3, .cells [.int .u64 a, .int .i64 b, .bool u, .bool y] true), (4, .cells [.int .u64 a] true)] 5
noncomputable def vcWr_s2 (y : Bool) (n : Nat) (a : Int) (b : Int) (u : Bool) (R : AO) (N : AO) : ASt := mkSt [(0, .cells [.bool true, .slice (some (1, 0)) n (.rest 4)] true), (1, R), (2, .dead), (3, .cells [.int .u64 a, .int .i64 b, .bool u, .bool y] true), (4, .cells [.int .u64 a] true), (5, N)] 6
theorem vcWr (y : Bool) (V : AV) (n : Nat) (i : Nat) (k : Nat) (a : Int) (b : Int) (u : Bool) (R : AO) (O : AO) (N : AO) (Q : Exit × AFr × ASt → Prop) :
  (ifB (ltF (.ofNat i) (.ofNat n)) (still (vcWr_s0 n R O) (aIndexAddr ED 35 (.slice (some (1, 0)) n (.rest 4)) (.int .i64 (.ofNat i))) = some (.ptr (some (1, i * 4)), vcWr_s0 n R O) ∧ aLoad ED 81 (.ptr (some (1, i * 4))) (vcWr_s0 n R O) = some (.agg [.int .u64 a, .int .i64 b, .bool u, .bool y], vcWr_s0 n R O) ∧ aBuiltinM ED .append [42, 42] [V, .slice (some (4, 0)) 1 (.known 1)] (vcWr_s1 y n a b u R O) = some (.slice (some (5, 0)) (k + 1) (.rest 1), vcWr_s2 y n a b u R N) ∧ Q (.normal, xFr [(0, .ptr (some (0, 0))), (2, .slice (some (5, 0)) (k + 1) (.rest 1)), (11, .slice (some (1, 0)) n (.rest 4)), (12, .int .i64 (.ofNat n)), (13, .int .i64 (wrapF .i64 (.ofNat i + .ofNat 1)))] 27, vcWr_s2 y n a b u R N)) (Q (.exit 0, xFr [(0, .ptr (some (0, 0))), (2, V), (11, .slice (some (1, 0)) n (.rest 4)), (12, .int .i64 (.ofNat n)), (13, .int .i64 (.ofNat i))] 27, vcWr_s0 n R O))) =
  (tWr y V n i k a b u R O N).allY (fun r => Q (canR [0, 2, 11, 12, 13] [0, 1, 2, 3, 4, 5, 6, 7, 8, 9, 10, 11, 12, 13, 14, 15, 16, 17, 18, 19, 20, 21, 22, 23, 24, 25, 26, 27, 28, 29, 30] r)) (.b (.v (.ptr (some (1, i * 4)), vcWr_s0 n R O) (.v (.agg [.int .u64 a, .int .i64 b, .bool u, .bool y], vcWr_s0 n R O) (.v (.slice (some (5, 0)) (k + 1) (.rest 1), vcWr_s2 y n a b u R N) .nil))) .nil) := by kernel_rfl
noncomputable def vcXn_s0 (n : Nat) (m : Int) (R : AO) : ASt := mkSt [(0, .cells [.bool true, .slice (some (1, 0)) n (.rest 4)] true), (1, R), (2, .cells [.int .u64 m] true)] 3
theorem vcXn (q : CallT) (n : Nat) (m : Int) (R : AO) (Q : AV × ASt → Prop) :
  ((M ED (drawA ED) (smD q) 51).call 65 [.slice (some (1, 0)) n (.rest 4), .clos 66 [.ptr (some (2, 0))]] (vcXn_s0 n m R) = some (.int .i64 (Int.negSucc 0), vcXn_s0 n m R) ∧ Q (.tuple [.slice none 0 (.known 0), .int .i64 (.ofNat 6)], vcXn_s0 n m R)) =
  (tXn q n m R).allY (fun r => Q (r.1, canS [0, 1, 2, 3, 4, 5, 6, 7, 8, 9, 10, 11, 12, 13, 14, 15, 16, 17, 18, 19, 20, 21, 22, 23, 24, 25, 26, 27, 28, 29, 30] r.2)) (.v (.int .i64 (Int.negSucc 0), vcXn_s0 n m R) .nil) := by kernel_rfl
noncomputable def vcXe_s0 (V : AV) (m : Int) : ASt := mkSt [(0, .cells [.bool true, V] true), (1, .dead), (2, .cells [.int .u64 m] true)] 3
theorem vcXe (q : CallT) (V : AV) (m : Int) (Q : AV × ASt → Prop) :
  ((M ED (drawA ED) (smD q) 51).call 65 [V, .clos 66 [.ptr (some (2, 0))]] (vcXe_s0 V m) = some (.int .i64 (Int.negSucc 0), vcXe_s0 V m) ∧ Q (.tuple [.slice none 0 (.known 0), .int .i64 (.ofNat 6)], vcXe_s0 V m)) =
  (tXe q V m).allY (fun r => Q (r.1, canS [0, 1, 2, 3, 4, 5, 6, 7, 8, 9, 10, 11, 12, 13, 14, 15, 16, 17, 18, 19, 20, 21, 22, 23, 24, 25, 26, 27, 28, 29, 30] r.2)) (.v (.int .i64 (Int.negSucc 0), vcXe_s0 V m) .nil) := by kernel_rfl
noncomputable def vcXa_s0 (k : Nat) (m : Int) (R : AO) : ASt := mkSt [(0, .cells [.bool true, .slice (some (1, 0)) (k + 1) (.rest 4)] true), (1, R), (2, .cells [.int .u64 m] true)] 3
noncomputable def vcXa_s1 (k : Nat) (m : Int) (R : AO) : ASt := mkSt [(0, .cells [.bool true, .slice (some (1, 0)) (k + 1) (.rest 4)] true), (1, R), (2, .cells [.int .u64 m] true), (3, .cells [] true)] 4
noncomputable def vcXa_s2 (k : Nat) (m : Int) (R : AO) (C : AO) : ASt := mkSt [(0, .cells [.bool true, .slice (some (1, 0)) (k + 1) (.rest 4)] true), (1, R), (2, .cells [.int .u64 m] true), (3, .cells [] true), (4, C)] 5
noncomputable def vcXa_s3 (k : Nat) (m : Int) (R : AO) (C : AO) : ASt := mkSt [(0, .cells [.bool true, .slice (some (1, 0)) (k + 1) (.rest 4)] true), (1, R), (2, .cells [.int .u64 m] true), (3, .cells [] true), (4, C)] 13
noncomputable def vcXa_s4 (k : Nat) (m : Int) (R : AO) (M : AO) : ASt := mkSt [(0, .cells [.bool true, .slice (some (1, 0)) (k + 1) (.rest 4)] true), (1, R), (2, .cells [.int .u64 m] true), (3, .cells [] true), (4, M)] 13
noncomputable def vcXa_s5 (k : Nat) (m : Int) (R : AO) (N : AO) : ASt := mkSt [(0, .cells [.bool true, .slice (some (1, 0)) (k + 1) (.rest 4)] true), (1, R), (2, .cells [.int .u64 m] true), (3, .cells [] true), (4, N)] 13
noncomputable def vcXa_s6 (k : Nat) (m : Int) (R : AO) (N : AO) : ASt := mkSt [(0, .cells [.bool true, .slice (some (4, 0)) k (.rest 4)] true), (1, R), (2, .cells [.int .u64 m] true), (3, .cells [] true), (4, N)] 13
theorem vcXa (q : CallT) (k : Nat) (i : Nat) (m : Int) (V1 : AV) (V2 : AV) (V3 : AV) (V4 : AV) (R : AO) (C : AO) (M : AO) (N : AO) (Q : Exit × AFr × ASt → Prop) :
  ((Ax.M ED (drawA ED) (smD q) 52).call 65 [.slice (some (1, 0)) (k + 1) (.rest 4), .clos 66 [.ptr (some (2, 0))]] (vcXa_s0 k m R) = some (.int .i64 (.ofNat i), vcXa_s0 k m R) ∧ aBuiltinM ED .append [35, 35] [.slice (some (3, 0)) 0 (.known 0), .slice (some (1, 0)) (k + 1) (.rest 4)] (vcXa_s1 k m R) = some (.slice (some (4, 0)) (k + 1) (.rest 4), vcXa_s2 k m R C) ∧ still (vcXa_s2 k m R C) (aSlice ED 35 (.slice (some (4, 0)) (k + 1) (.rest 4)) (some (.int .i64 (.ofNat i))) (some (.int .i64 (wrapF .i64 (.ofNat i + .ofNat 1)))) (some (.int .i64 (.ofNat (k + 1)))) (vcXa_s2 k m R C)) = some (V1, vcXa_s2 k m R C) ∧ still (vcXa_s2 k m R C) (aBin ED .eql 3 (.tmp 14) (.tmp 15) (.int .i64 (.ofNat i)) (.int .i64 (wrapF .i64 (.ofNat i + .ofNat 1)))) = some (.bool false, vcXa_s2 k m R C) ∧ still (vcXa_s3 k m R C) (aSlice ED 35 (.slice (some (4, 0)) (k + 1) (.rest 4)) none (some (.int .i64 (.ofNat i))) none (vcXa_s3 k m R C)) = some (.slice (some (4, 0)) i (.rest 4), vcXa_s3 k m R C) ∧ still (vcXa_s3 k m R C) (aSlice ED 35 (.slice (some (4, 0)) (k + 1) (.rest 4)) (some (.int .i64 (wrapF .i64 (.ofNat i + .ofNat 1)))) none none (vcXa_s3 k m R C)) = some (V2, vcXa_s3 k m R C) ∧ aBuiltinM ED .append [35, 35] [.slice (some (4, 0)) i (.rest 4), V2] (vcXa_s3 k m R C) = some (.slice (some (4, 0)) k (.rest 4), vcXa_s4 k m R M) ∧ holdsO [] ∧ still (vcXa_s4 k m R M) (aSlice ED 35 (.slice (some (4, 0)) k (.rest 4)) (some (.int .i64 (.ofNat k))) (some (.int .i64 (.ofNat (k + 1)))) none (vcXa_s4 k m R M)) = some (V3, vcXa_s4 k m R M) ∧ aBuiltinM ED .clear [35] [V3] (vcXa_s4 k m R M) = some (.tuple [], vcXa_s5 k m R N) ∧ Q (.normal, xFr [(0, .ptr (some (0, 0))), (1, .int .u64 m), (4, .slice none 0 (.known 0)), (5, .int .i64 (.ofNat 0)), (6, .int .i64 (.ofNat i))] 68, vcXa_s6 k m R N)) =
  (tXa q k i m V1 V2 V3 V4 R C M N).allY (fun r => Q (canR [0, 1, 4, 5, 6] [0, 1, 2, 3, 4, 5, 6, 7, 8, 9, 10, 11, 12, 13, 14, 15, 16, 17, 18, 19, 20, 21, 22, 23, 24, 25, 26, 27, 28, 29, 30] r)) (.v (.int .i64 (.ofNat i), vcXa_s0 k m R) (.b .nil (.v (.slice (some (4, 0)) (k + 1) (.rest 4), vcXa_s2 k m R C) (.v (V1, vcXa_s2 k m R C) (.v (.bool false, vcXa_s2 k m R C) (.v (.slice (some (4, 0)) i (.rest 4), vcXa_s3 k m R C) (.v (V2, vcXa_s3 k m R C) (.v (.slice (some (4, 0)) k (.rest 4), vcXa_s4 k m R M) (.v (V3, vcXa_s4 k m R M) (.v (.tuple [], vcXa_s5 k m R N) .nil)))))))))) := by kernel_rfl
noncomputable def vcXi_s0 (n : Nat) (R : AO) : ASt := mkSt [(0, .cells [.bool true, .slice (some (2, 0)) n (.rest 4)] true), (1, .dead), (2, R), (3, .dead)] 4
theorem vcXi (n : Nat) (m : Int) (R : AO) (Q : Exit × AFr × ASt → Prop) :
  (Q (.normal, xFr [(0, .ptr (some (0, 0))), (4, .slice none 0 (.known 0)), (5, .int .i64 (.ofNat 0)), (32, .slice (some (2, 0)) n (.rest 4)), (33, .int .i64 (.ofNat n)), (34, .int .i64 (.ofNat 0))] 68, vcXi_s0 n R)) =
  (tXi n m R).allY (fun r => Q (canR [0, 4, 5, 32, 33, 34] [0, 1, 2, 3, 4, 5, 6, 7, 8, 9, 10, 11, 12, 13, 14, 15, 16, 17, 18, 19, 20, 21, 22, 23, 24, 25, 26, 27, 28, 29, 30] r)) (.nil) := by kernel_rfl
noncomputable def vcXs_s0 (n : Nat) (R : AO) (O : AO) : ASt := mkSt [(0, .cells [.bool true, .slice (some (2, 0)) n (.rest 4)] true), (1, .dead), (2, R), (3, O)] 4
noncomputable def vcXs_s1 (n : Nat) (R : AO) (O : AO) : ASt := mkSt [(0, .cells [.bool true, .slice (some (2, 0)) n (.rest 4)] true), (1, .dead), (2, R), (3, O), (4, .cells [.int .u64 (.ofNat 0), .int .i64 (.ofNat 0), .bool false, .bool false] true)] 5
noncomputable def vcXs_s2 (n : Nat) (a : Int) (b : Int) (u : Bool) (R : AO) (O : AO) : ASt := mkSt [(0, .cells [.bool true, .slice (some (2, 0)) n (.rest 4)] true), (1, .dead), (2, R), (3, O), (4, .cells [.int .u64 a, .int .i64 b, .bool u, .bool true] true)] 5
noncomputable def vcXs_s3 (n : Nat) (a : Int) (b : Int) (u : Bool) (R : AO) (O : AO) : ASt := mkSt [(0, .cells [.bool true, .slice (some (2, 0)) n (.rest 4)] true), (1, .dead), (2, R), (3, O), (4, .cells [.int .u64 a, .int .i64 b, .bool u, .bool true] true)] 20
theorem vcXs (q : CallT) (V : AV) (n : Nat) (i : Nat) (k : Nat) (a : Int) (b : Int) (u : Bool) (R : AO) (R1 : AO) (O : AO) (N : AO) (Q : Exit × AFr × ASt → Prop) :
  (ifB (ltF (.ofNat i) (.ofNat n)) (still (vcXs_s0 n R O) (aIndexAddr ED 35 (.slice (some (2, 0)) n (.rest 4)) (.int .i64 (.ofNat i))) = some (.ptr (some (2, i * 4)), vcXs_s0 n R O) ∧ aLoad ED 81 (.ptr (some (2, i * 4))) (vcXs_s0 n R O) = some (.agg [.int .u64 a, .int .i64 b, .bool u, .bool true], vcXs_s0 n R O) ∧ Option.map (fun s => (undefA, s)) (aStore ED 81 (.ptr (some (4, 0))) (.agg [.int .u64 a, .int .i64 b, .bool u, .bool true]) (vcXs_s1 n R O)) = some (.tuple [], vcXs_s2 n a b u R O) ∧ holdsO [] ∧ Q (.normal, xFr [(0, .ptr (some (0, 0))), (4, V), (5, .int .i64 (.ofNat 0)), (32, .slice (some (2, 0)) n (.rest 4)), (33, .int .i64 (.ofNat n)), (34, .int .i64 (wrapF .i64 (.ofNat i + .ofNat 1)))] 68, vcXs_s3 n a b u R O)) (Q (.exit 0, xFr [(0, .ptr (some (0, 0))), (4, V), (5, .int .i64 (.ofNat 0)), (32, .slice (some (2, 0)) n (.rest 4)), (33, .int .i64 (.ofNat n)), (34, .int .i64 (.ofNat i))] 68, vcXs_s0 n R O))) =
  (tXs q V n i k a b u R R1 O N).allY (fun r => Q (canR [0, 4, 5, 32, 33, 34] [0, 1, 2, 3, 4, 5, 6, 7, 8, 9, 10, 11, 12, 13, 14, 15, 16, 17, 18, 19, 20, 21, 22, 23, 24, 25, 26, 27, 28, 29, 30] r)) (.b (.v (.ptr (some (2, i * 4)), vcXs_s0 n R O) (.v (.agg [.int .u64 a, .int .i64 b, .bool u, .bool true], vcXs_s0 n R O) (.v (.tuple [], vcXs_s2 n a b u R O) .nil))) .nil) := by kernel_rfl
noncomputable def vcXt_s0 (n : Nat) (R : AO) (O : AO) : ASt := mkSt [(0, .cells [.bool true, .slice (some (2, 0)) n (.rest 4)] true), (1, .dead), (2, R), (3, O)] 4
noncomputable def vcXt_s1 (n : Nat) (R : AO) (O : AO) : ASt := mkSt [(0, .cells [.bool true, .slice (some (2, 0)) n (.rest 4)] true), (1, .dead), (2, R), (3, O), (4, .cells [.int .u64 (.ofNat 0), .int .i64 (.ofNat 0), .bool false, .bool false] true)] 5
noncomputable def vcXt_s2 (n : Nat) (a : Int) (b : Int) (u : Bool) (R : AO) (O : AO) : ASt := mkSt [(0, .cells [.bool true, .slice (some (2, 0)) n (.rest 4)] true), (1, .dead), (2, R), (3, O), (4, .cells [.int .u64 a, .int .i64 b, .bool u, .bool false] true)] 5
noncomputable def vcXt_s3 (n : Nat) (a : Int) (b : Int) (u : Bool) (R : AO) (O : AO) : ASt := mkSt [(0, .cells [.bool true, .slice (some (2, 0)) n (.rest 4)] true), (1, .dead), (2, R), (3, O), (4, .cells [.int .u64 a, .int .i64 b, .bool u, .bool false] true)] 20
theorem vcXt (q : CallT) (V : AV) (n : Nat) (i : Nat) (k : Nat) (a : Int) (b : Int) (u : Bool) (R : AO) (R1 : AO) (O : AO) (N : AO) (Q : Exit × AFr × ASt → Prop) :
  (ifB (ltF (.ofNat i) (.ofNat n)) (still (vcXt_s0 n R O) (aIndexAddr ED 35 (.slice (some (2, 0)) n (.rest 4)) (.int .i64 (.ofNat i))) = some (.ptr (some (2, i * 4)), vcXt_s0 n R O) ∧ aLoad ED 81 (.ptr (some (2, i * 4))) (vcXt_s0 n R O) = some (.agg [.int .u64 a, .int .i64 b, .bool u, .bool false], vcXt_s0 n R O) ∧ Option.map (fun s => (undefA, s)) (aStore ED 81 (.ptr (some (4, 0))) (.agg [.int .u64 a, .int .i64 b, .bool u, .bool false]) (vcXt_s1 n R O)) = some (.tuple [], vcXt_s2 n a b u R O) ∧ still (vcXt_s3 n a b u R O) (aSlice ED 35 (.slice (some (2, 0)) n (.rest 4)) none (some (.int .i64 (.ofNat i))) none (vcXt_s3 n a b u R O)) = some (.slice (some (2, 0)) i (.rest 4), vcXt_s3 n a b u R O) ∧ (M ED (drawA ED) (smD q) 53).call 44 [.slice (some (2, 0)) i (.rest 4), .bound 45 [.agg [.int .u64 a, .int .i64 b, .bool u, .bool false]] []] (vcXt_s3 n a b u R O) = some (.bool true, vcXt_s3 n a b u R O) ∧ holdsO [] ∧ Q (.normal, xFr [(0, .ptr (some (0, 0))), (4, V), (5, .int .i64 (.ofNat 0)), (32, .slice (some (2, 0)) n (.rest 4)), (33, .int .i64 (.ofNat n)), (34, .int .i64 (wrapF .i64 (.ofNat i + .ofNat 1)))] 68, vcXt_s3 n a b u R O)) (Q (.exit 0, xFr [(0, .ptr (some (0, 0))), (4, V), (5, .int .i64 (.ofNat 0)), (32, .slice (some (2, 0)) n (.rest 4)), (33, .int .i64 (.ofNat n)), (34, .int .i64 (.ofNat i))] 68, vcXt_s0 n R O))) =
  (tXt q V n i k a b u R R1 O N).allY (fun r => Q (canR [0, 4, 5, 32, 33, 34] [0, 1, 2, 3, 4, 5, 6, 7, 8, 9, 10, 11, 12, 13, 14, 15, 16, 17, 18, 19, 20, 21, 22, 23, 24, 25, 26, 27, 28, 29, 30] r)) (.b (.v (.ptr (some (2, i * 4)), vcXt_s0 n R O) (.v (.agg [.int .u64 a, .int .i64 b, .bool u, .bool false], vcXt_s0 n R O) (.v (.tuple [], vcXt_s2 n a b u R O) (.v (.slice (some (2, 0)) i (.rest 4), vcXt_s3 n a b u R O) (.v (.bool true, vcXt_s3 n a b u R O) .nil))))) .nil) := by kernel_rfl
noncomputable def vcXu_s0 (n : Nat) (R : AO) (O : AO) : ASt := mkSt [(0, .cells [.bool true, .slice (some (2, 0)) n (.rest 4)] true), (1, .dead), (2, R), (3, O)] 4
noncomputable def vcXu_s1 (n : Nat) (R : AO) (O : AO) : ASt := mkSt [(0, .cells [.bool true, .slice (some (2, 0)) n (.rest 4)] true), (1, .dead), (2, R), (3, O), (4, .cells [.int .u64 (.ofNat 0), .int .i64 (.ofNat 0), .bool false, .bool false] true)] 5
noncomputable def vcXu_s2 (n : Nat) (a : Int) (b : Int) (u : Bool) (R : AO) (O : AO) : ASt := mkSt [(0, .cells [.bool true, .slice (some (2, 0)) n (.rest 4)] true), (1, .dead), (2, R), (3, O), (4, .cells [.int .u64 a, .int .i64 b, .bool u, .bool false] true)] 5
noncomputable def vcXu_s3 (n : Nat) (a : Int) (b : Int) (u : Bool) (R : AO) (O : AO) : ASt := mkSt [(0, .cells [.bool true, .slice (some (2, 0)) n (.rest 4)] true), (1, .dead), (2, R), (3, O), (4, .cells [.int .u64 a, .int .i64 b, .bool u, .bool false] true)] 20
noncomputable def vcXu_s4 (n : Nat) (a : Int) (b : Int) (u : Bool) (R1 : AO) (O : AO) : ASt := mkSt [(0, .cells [.bool true, .slice (some (2, 0)) n (.rest 4)] true), (1, .dead), (2, R1), (3, O), (4, .cells [.int .u64 a, .int .i64 b, .bool u, .bool false] true)] 20
noncomputable def vcXu_s5 (n : Nat) (a : Int) (b : Int) (u : Bool) (R1 : AO) (O : AO) : ASt := mkSt [(0, .cells [.bool true, .slice (some (2, 0)) n (.rest 4)] true), (1, .dead), (2, R1), (3, O), (4, .cells [.int .u64 a, .int .i64 b, .bool u, .bool false] true), (20, .cells [.int .u64 a] true)] 21
noncomputable def vcXu_s6 (n : Nat) (a : Int) (b : Int) (u : Bool) (R1 : AO) (N : AO) : ASt := mkSt [(0, .cells [.bool true, .slice (some (2, 0)) n (.rest 4)] true), (1, .dead), (2, R1), (3, .dead), (4, .cells [.int .u64 a, .int .i64 b, .bool u, .bool false] true), (20, .cells [.int .u64 a] true), (21, N)] 22
theorem vcXu (q : CallT) (V : AV) (n : Nat) (i : Nat) (k : Nat) (a : Int) (b : Int) (u : Bool) (R : AO) (R1 : AO) (O : AO) (N : AO) (Q : Exit × AFr × ASt → Prop) :
  (ifB (ltF (.ofNat i) (.ofNat n)) (still (vcXu_s0 n R O) (aIndexAddr ED 35 (.slice (some (2, 0)) n (.rest 4)) (.int .i64 (.ofNat i))) = some (.ptr (some (2, i * 4)), vcXu_s0 n R O) ∧ aLoad ED 81 (.ptr (some (2, i * 4))) (vcXu_s0 n R O) = some (.agg [.int .u64 a, .int .i64 b, .bool u, .bool false], vcXu_s0 n R O) ∧ Option.map (fun s => (undefA, s)) (aStore ED 81 (.ptr (some (4, 0))) (.agg [.int .u64 a, .int .i64 b, .bool u, .bool false]) (vcXu_s1 n R O)) = some (.tuple [], vcXu_s2 n a b u R O) ∧ still (vcXu_s3 n a b u R O) (aSlice ED 35 (.slice (some (2, 0)) n (.rest 4)) none (some (.int .i64 (.ofNat i))) none (vcXu_s3 n a b u R O)) = some (.slice (some (2, 0)) i (.rest 4), vcXu_s3 n a b u R O) ∧ (M ED (drawA ED) (smD q) 53).call 44 [.slice (some (2, 0)) i (.rest 4), .bound 45 [.agg [.int .u64 a, .int .i64 b, .bool u, .bool false]] []] (vcXu_s3 n a b u R O) = some (.bool false, vcXu_s3 n a b u R O) ∧ holdsO [] ∧ still (vcXu_s3 n a b u R O) (aIndexAddr ED 35 (.slice (some (2, 0)) n (.rest 4)) (.int .i64 (.ofNat i))) = some (.ptr (some (2, i * 4)), vcXu_s3 n a b u R O) ∧ Option.map (fun s => (undefA, s)) (aStore ED 4 (.ptr (some (2, i * 4 + 3))) (.bool true) (vcXu_s3 n a b u R O)) = some (.tuple [], vcXu_s4 n a b u R1 O) ∧ aBuiltinM ED .append [42, 42] [V, .slice (some (20, 0)) 1 (.known 1)] (vcXu_s5 n a b u R1 O) = some (.slice (some (21, 0)) (k + 1) (.rest 1), vcXu_s6 n a b u R1 N) ∧ Q (.normal, xFr [(0, .ptr (some (0, 0))), (4, .slice (some (21, 0)) (k + 1) (.rest 1)), (5, .int .i64 (.ofNat 0)), (32, .slice (some (2, 0)) n (.rest 4)), (33, .int .i64 (.ofNat n)), (34, .int .i64 (wrapF .i64 (.ofNat i + .ofNat 1)))] 68, vcXu_s6 n a b u R1 N)) (Q (.exit 0, xFr [(0, .ptr (some (0, 0))), (4, V), (5, .int .i64 (.ofNat 0)), (32, .slice (some (2, 0)) n (.rest 4)), (33, .int .i64 (.ofNat n)), (34, .int .i64 (.ofNat i))] 68, vcXu_s0 n R O))) =
  (tXu q V n i k a b u R R1 O N).allY (fun r => Q (canR [0, 4, 5, 32, 33, 34] [0, 1, 2, 3, 4, 5, 6, 7, 8, 9, 10, 11, 12, 13, 14, 15, 16, 17, 18, 19, 20, 21, 22, 23, 24, 25, 26, 27, 28, 29, 30] r)) (.b (.v (.ptr (some (2, i * 4)), vcXu_s0 n R O) (.v (.agg [.int .u64 a, .int .i64 b, .bool u, .bool false], vcXu_s0 n R O) (.v (.tuple [], vcXu_s2 n a b u R O) (.v (.slice (some (2, 0)) i (.rest 4), vcXu_s3 n a b u R O) (.v (.bool false, vcXu_s3 n a b u R O) (.v (.ptr (some (2, i * 4)), vcXu_s3 n a b u R O) (.v (.tuple [], vcXu_s4 n a b u R1 O) (.v (.slice (some (21, 0)) (k + 1) (.rest 1), vcXu_s6 n a b u R1 N) .nil)))))))) .nil) := by kernel_rfl
end Go.Proofs.Ytelehjeifhelnaa.ovp
end

section
open Go Go.Ax Go.Proofs
namespace Go.Proofs.Ytelehjeifhelnaa.ovp
set_option linter.unusedVariables false
theorem EDok : Env.Ok Try.prog ED := envEx_ok (xs := []) ⟨⟨Try.func13, Try.call13⟩, ⟨Try.func14, Try.call14⟩, ⟨Try.func48, Try.call48⟩, ⟨Try.func40, Try.call40⟩, ⟨Try.func41, Try.call41⟩, ⟨Try.func43, Try.call43⟩, ⟨Try.func47, Try.call47⟩, trivial⟩ trivial (by kernel_rfl)
theorem dl35 : sliceT ED 35 = some 4 := by kernel_rfl
theorem dg81 : aggT ED 81 = some 4 := by kernel_rfl
theorem dp42 : appT ED 42 42 = some (1, 8) := by kernel_rfl
structure RowR (R : List AV) (l : List RQ) : Prop where
  refs : ∀ c, c ∈ R → refsV 0 c
  at_ : takeL R 0 (l.flatMap enc4).length = some (l.flatMap enc4)
theorem RowR.came {R : List AV} {l : List RQ} (h : RowR R l) (rw : Bool) : Came (.cells R rw) := .inr ⟨_, _, rfl, h.refs⟩
theorem takeL_in {X Y cs : List AV} {o z : Nat} (h : takeL cs 0 X.length = some X) (h2 : takeL X o z = some Y) (hz : o + z ≤ X.length) : takeL cs o z = some Y := by
  have e : X = cs.take X.length := by
    have h : (bif Nat.beq (cs.take X.length).length X.length then some (cs.take X.length) else none) = some X := h
    cases hb : Nat.beq (cs.take X.length).length X.length with
    | false => rw [hb] at h; cases h
    | true => rw [hb, cond_true, Option.some.injEq] at h; exact h.symm
  have : (cs.drop o).take z = (X.drop o).take z := by
    rw [e, List.drop_take, List.take_take, Nat.min_eq_left (by omega)]
  unfold takeL at h2 ⊢
  rw [this]; exact h2
theorem RowR.one {R : List AV} {l : List RQ} (h : RowR R l) {i : Nat} {r : RQ} (hr : l[i]? = some r) : takeL R (i * 4) 4 = some (enc4 r) :=
  takeL_in h.at_ (fm_one enc4_len hr) (by
    rw [fm_len enc4_len]
    have := (List.getElem?_eq_some_iff.1 hr).1
    omega)
theorem RowR.row {R : List AV} {l : List RQ} (h : RowR R l) {S : ASt} {k : Nat} {rw : Bool} (hS : S.h.get k = some (.cells R rw)) : RowIn S k l := ⟨R, rw, hS, h.at_⟩
def KO : List Nat := [0, 1, 2, 3, 4, 5, 6, 7, 8, 9, 10, 11, 12, 13, 14, 15, 16, 17, 18, 19, 20, 21, 22, 23, 24, 25, 26, 27, 28, 29, 30]
section
variable {l : List RQ} {R : List AV} {c : List Int} {w : Bool} {i n k : Nat} {r : RQ} {S : ASt} {E : Env} {cp : Cap}
theorem didx (hE : sliceT E 35 = some 4) (hi : i < n) : still S (aIndexAddr E 35 (.slice (some (k, 0)) n cp) (.int .i64 (.ofNat i))) = some (.ptr (some (k, i * 4)), S) := by
  have := idx_at (E := E) (t := 35) (i := k) (o := 0) (n := n) (c := cp) (kd := .i64) hE hi
  rw [Nat.zero_add] at this
  exact still_of this
theorem dload {rw : Bool} (hE : aggT E 81 = some 4) (hR : RowR R l) (hS : S.h.get k = some (.cells R rw)) (hr : l[i]? = some r) : aLoad E 81 (.ptr (some (k, i * 4))) S = some (.agg (enc4 r), S) := load_agg hE hS (hR.one hr)
theorem push_at {E : Env} (hE : appT E 42 42 = some (1, 8)) {d j : Nat} {a : Int} {S' : ASt} (hl : c.length < 1099511627776) (hj : S.h.get j = some (.cells [cu a] true)) (hd : S.h.get d = some (Bn c)) (hS : (bif c.isEmpty then S else S.put d .dead).add (.cells (c.map cu ++ [cu a]) true) = S') :
    aBuiltinM E .append [42, 42] [Vr d c, .slice (some (j, 0)) 1 (.known 1)] S = some (.slice (some (S.next, 0)) (c.length + 1) (.rest 1), S') := by
  subst hS
  cases c with
  | nil => exact (append_nil_at hE (n := 1) (new := [cu a]) rfl (first_at (cs := [cu a]) (rw := true) hj rfl) (by decide) (by decide) (by decide)).trans rfl
  | cons y c => exact (append_grow_at (l := (y :: c).length) (i := d) (cs := (y :: c).map cu) hE (n := 1) (new := [cu a]) rfl (first_at (cs := [cu a]) (rw := true) hj rfl) hd (by simp) (by decide) (by decide) (by omega) (by omega)).trans rfl
theorem Vr_push {d : Nat} {a : Int} : Vr d (c ++ [a]) = .slice (some (d, 0)) (c.length + 1) (.rest 1) := by cases c <;> simp [Vr]
theorem Bn_push {a : Int} : Bn (c ++ [a]) = .cells (c.map cu ++ [cu a]) true := by cases c <;> simp [Bn]
theorem push_came {a : Int} : Came (.cells (c.map cu ++ [cu a]) true) := .inr ⟨_, _, rfl, fun v hv => by
  rw [← List.map_singleton, ← List.map_append] at hv; exact cu_refs v hv⟩
theorem Bn_own : (Bn c) = .dead ∨ (Bn c).own = true := by cases c <;> simp [Bn, AO.own]
theorem heldV {nx d j : Nat} {V V' : AV} {ls : List (Nat × AO)} {W : AO} (hd : preB 2 0 [0, 1, d] = true) (hnd : noDup [0, 1, d] = true) (h0 : (mkSt ls nx).h.get 0 = some (tob (slT n))) (h1 : (mkSt ls nx).h.get 1 = some (.cells R true)) (h2 : (mkSt ls nx).h.get d = some W) (hR : RowR R l) (hW : Came W)
    (hf : frE [0, 1, d] (fr48 w V n j) [0, 1, 4, 13, 14, 15] = some [(0, p0), (1, .bool w), (4, V'), (13, slT n), (14, nI n), (15, nI j)]) :
    Wk 2 (fr48 w V n j) (mkSt ls nx) (fr48 w V' n j) (S3 (slT n) (.cells R true) W) := by
  have hs : StP [0, 1, d] (mkSt ls nx) [(0, tob (slT n)), (1, .cells R true), (2, W)] := .cons 0 _ rfl h0 (.of rfl) (.came (hR.came true) rfl h1 (.came hW rfl h2 .nil))
  exact Wk.heldX (kb := 2) [0, 1, d] hd hnd [0, 1, 4, 13, 14, 15] hf hs
def QV (w : Bool) (l : List RQ) (R : List AV) (c : List Int) (i : Nat) (q : Exit × AFr × ASt) : Prop := (∃ r, l[i]? = some r ∧ Stops 2 .normal (fr48 w (Vr 2 (stepN w c r)) l.length (i + 1)) (S3 (slT l.length) (.cells R true) (Bn (stepN w c r))) q) ∨ (i = l.length ∧ Stops 2 (.exit 0) (fr48 w (Vr 2 c) l.length i) (S3 (slT l.length) (.cells R true) (Bn c)) q)
theorem roundV (hl : l.length < 1099511627776) (hc : c.length < 1099511627776) (hR : RowR R l) (hi : i ≤ l.length) : Trip Try.prog 2 none L48 (fr48 w (Vr 2 c) l.length i) (S3 (slT l.length) (.cells R true) (Bn c)) (QV w l R c i) := by
  have fin : ∀ {y : Bool} {k : Nat} {a b : Int} {u : Bool} {N : AO} {ys}, (tVr w y (Vr 2 c) l.length i k a b u (.cells R true) (Bn c) N).allY (fun r => QV w l R c i (canR [0, 1, 4, 13, 14, 15] KO r)) ys → Trip Try.prog 2 none L48 (fr48 w (Vr 2 c) l.length i) (S3 (slT l.length) (.cells R true) (Bn c)) (QV w l R c i) := fun h =>
    (Trip.runY EDok noSum_ok h).mono fun q hq => hq.imp (fun ⟨r, h1, h2⟩ => ⟨r, h1, h2.can⟩) (fun h => ⟨h.1, h.2.can⟩)
  by_cases e : i < l.length
  · obtain ⟨r, hr⟩ : ∃ r, l[i]? = some r := ⟨_, List.getElem?_eq_getElem e⟩
    have e1 : wrapF .i64 (Int.ofNat i + Int.ofNat 1) = .ofNat (i + 1) := wI e (by omega)
    refine fin (y := r.way) (k := c.length) (a := r.num) (b := r.blk) (u := r.wr) (N := .cells (c.map cu ++ [cu r.num]) true) (Eq.mp (vcVr w r.way (Vr 2 c) l.length i c.length r.num r.blk r.wr (.cells R true) (Bn c) (.cells (c.map cu ++ [cu r.num]) true) (QV w l R c i)) (ifB_mk (fun _ => ⟨didx dl35 e, dload (rw := true) dg81 hR (by kernel_rfl) hr, ifB_mk (fun h => ⟨(push_at dp42 (j := 4) (a := r.num) hc (by kernel_rfl) (by kernel_rfl) rfl).trans ?_, .inl ⟨r, hr, rfl, ?_⟩⟩) (fun h => .inl ⟨r, hr, rfl, ?_⟩)⟩) fun h => nlt' e h))
    · cases c <;> kernel_rfl
    · have es : stepN w c r = c ++ [r.num] := by unfold stepN; rw [h]; rfl
      rw [e1, es, Vr_push, Bn_push]
      exact heldV (d := 5) (by kernel_rfl) (by kernel_rfl) (by kernel_rfl) (by kernel_rfl) (by kernel_rfl) hR push_came (by kernel_rfl)
    · have es : stepN w c r = c := by unfold stepN; rw [h]; rfl
      rw [e1, es]
      exact heldV (d := 2) (by kernel_rfl) (by kernel_rfl) (by kernel_rfl) (by kernel_rfl) (by kernel_rfl) hR (Bn_came c) (by cases c <;> kernel_rfl)
  · have ek : i = l.length := by omega
    refine fin (y := false) (k := 0) (a := 0) (b := 0) (u := false) (N := .dead) (Eq.mp (vcVr w false (Vr 2 c) l.length i 0 0 0 false (.cells R true) (Bn c) .dead (QV w l R c i)) (ifB_mk (fun h => ?_) fun _ => .inr ⟨ek, rfl, Wk.refl _ _ _⟩))
    rw [ltF_nn] at h
    exact absurd (of_decide_eq_true h) e
theorem loopV (hl : l.length < 549755813888) (hR : RowR R l) : Trip Try.prog 2 none (.block 0 (.loop L48)) (fr48 w nilA l.length 0) (S3 (slT l.length) (.cells R true) (Bn [])) (Stops 2 .normal (fr48 w (Vr 2 (numV w l)) l.length l.length) (S3 (slT l.length) (.cells R true) (Bn (numV w l)))) := by
  refine Trip.block (Trip.loop (fun μ fr st => ∃ k c, k ≤ l.length ∧ μ = l.length - k ∧ numV w (l.take k) = c ∧ c.length ≤ k ∧ fr = fr48 w (Vr 2 c) l.length k ∧ st = S3 (slT l.length) (.cells R true) (Bn c)) ?_ l.length ⟨0, [], by omega, by omega, rfl, Nat.le_refl _, rfl, rfl⟩)
  rintro μ fr st ⟨k, c, hk, rfl, hI, hc, rfl, rfl⟩
  refine (roundV (by omega) (by omega) hR hk).mono ?_
  rintro ⟨e, fr', st'⟩ (⟨r, h2, h4, h5⟩ | ⟨h2, h4, h5⟩)
  · simp only at h4
    subst h4
    have hk2 : k < l.length := (List.getElem?_eq_some_iff.1 h2).1
    have := stepN_len (w := w) (c := c) (r := r)
    exact ⟨l.length - (k + 1), _, _, by omega, h5, k + 1, stepN w c r, by omega, rfl, by rw [numV_succ h2, hI], by omega, rfl, rfl⟩
  · simp only at h4
    subst h4
    subst h2
    rw [List.take_length] at hI
    subst hI
    exact ⟨fun _ => ⟨rfl, h5⟩, fun h => absurd rfl h⟩
theorem shape48 : dropC 1 c48 = .seq (.seq (seqL (seqL (dropC 1 c48))) (.block 0 (.loop L48))) (dropC 2 c48) := by kernel_rfl
theorem vcVz (w : Bool) (V : AV) (n : Nat) (S : ASt) (R : AV × ASt → Prop) : ((Exit.ret = .normal ∨ Exit.ret = .ret) ∧ ∃ v, some (V, S) = some v ∧ R v) =
    ((TM ED noSum [] fl0 60).ex fl0 none (dropC 2 c48) (fr48 w V n n) S).allY (fun r => (r.1 = .normal ∨ r.1 = .ret) ∧ ∃ v, leaveA ED Try.f48 r.2.1 r.2.2 = some v ∧ R v) .nil := by kernel_rfl
theorem bodyV (hl : l.length < 549755813888) (hR : RowR R l) : Trip Try.prog 2 none c48 { m := putArgs [p0, .bool w] 0 .e, n := 30, defs := [] } (mkSt [(0, tob (slT l.length)), (1, .cells R true)] 2) fun r => (r.1 = .normal ∨ r.1 = .ret) ∧ ∃ v, leaveA ED Try.f48 r.2.1 r.2.2 = some v ∧ v = (Vr 2 (numV w l), S3 (slT l.length) (.cells R true) (Bn (numV w l))) := by
  refine Trip.preY EDok noSum_ok (k := 1) (kf := [0, 1, 4]) (ko := [0, 1]) (by kernel_rfl) (Q1 := fun q => q = (.normal, xFr [(0, p0), (1, .bool w), (4, nilA)] 30, vcVa_s0 l.length (.cells R true))) (Eq.mp (vcVa w l.length (.cells R true) (fun q => q = (.normal, xFr [(0, p0), (1, .bool w), (4, nilA)] 30, vcVa_s0 l.length (.cells R true)))) rfl) ?_ (fun q h1 h2 => absurd (congrArg Prod.fst h2) h1)
  rintro F' S' h
  cases h
  have hs : StP [0, 1, 9] (vcVa_s0 l.length (.cells R true)) [(0, tob (slT l.length)), (1, .cells R true), (2, .dead)] := .cons 0 _ rfl (by kernel_rfl : _ = some (tob (slT l.length))) (.of rfl) (.came (hR.came true) rfl (by kernel_rfl) (.dead (j := 2) (by decide) .nil))
  have hf : frE [0, 1, 9] (xFr [(0, p0), (1, .bool w), (4, nilA)] 30) [0, 1, 4] = some [(0, p0), (1, .bool w), (4, nilA)] := by kernel_rfl
  refine Trip.less (Wk.heldX (kb := 2) [0, 1, 9] (by kernel_rfl) (by kernel_rfl) [0, 1, 4] hf hs) ?_
  rw [shape48]
  refine Trip.seq (R := Stops 2 .normal (fr48 w (Vr 2 (numV w l)) l.length l.length) (S3 (slT l.length) (.cells R true) (Bn (numV w l)))) (Trip.seq (R := Stops 2 .normal (fr48 w nilA l.length 0) (S3 (slT l.length) (.cells R true) (Bn [])))
    ((Trip.runY EDok noSum_ok (Eq.mp (vcVi w l.length (.cells R true) .dead (Stops 2 .normal (fr48 w nilA l.length 0) (S3 (slT l.length) (.cells R true) (Bn [])))) ⟨rfl, Wk.refl _ _ _⟩)).mono fun q hq => Stops.can hq) (fun fr' st' hq => Trip.less hq.2 (loopV hl hR)) (fun e fr' st' hne hq => absurd hq.1 hne)) (fun fr' st' hq => ?_) (fun e fr' st' hne hq => absurd hq.1 hne)
  exact Trip.less hq.2 (Trip.runY EDok noSum_ok (Eq.mp (vcVz w (Vr 2 (numV w l)) l.length (S3 (slT l.length) (.cells R true) (Bn (numV w l))) (fun v => v = (Vr 2 (numV w l), S3 (slT l.length) (.cells R true) (Bn (numV w l))))) ⟨.inr rfl, _, rfl, rfl⟩))
theorem thoseRun (hl : l.length < 549755813888) (hR : RowR R l) (B : Prot) (w0 : World) (ι : Ren) (W : World) (args' : Array Value) (hB : ∀ i, ¬ B.rs i) (hsr : SR B w0 ι (mkSt [(0, tob (slT l.length)), (1, .cells R true)] 2) W) (hv : VRs ι [p0, .bool w] args') :
    (callFunc 48 args').run Try.prog W = .ok (.enter 48 args') W ∧ CallsIn Fence.wide 0 Try.prog 48 args' W fun e w' => ∃ v, v = (Vr 2 (numV w l), S3 (slT l.length) (.cells R true) (Bn (numV w l))) ∧ Post B w0 ι v e w' :=
  Trip.call EDok (fn := Try.f48) (by kernel_rfl) (by kernel_rfl : Try.f48.body = some c48) (by kernel_rfl) (bodyV hl hR) B hB w0 ι W args' hsr hv
def allN (l : List RQ) : List Int := l.map RQ.num
theorem heldW {nx d j : Nat} {V V' : AV} {ls : List (Nat × AO)} {W : AO} (hd : preB 2 0 [0, 1, d] = true) (hnd : noDup [0, 1, d] = true) (h0 : (mkSt ls nx).h.get 0 = some (tob (slT n))) (h1 : (mkSt ls nx).h.get 1 = some (.cells R true)) (h2 : (mkSt ls nx).h.get d = some W) (hR : RowR R l) (hW : Came W)
    (hf : frE [0, 1, d] (fr14 V n j) [0, 2, 11, 12, 13] = some [(0, p0), (2, V'), (11, slT n), (12, nI n), (13, nI j)]) :
    Wk 2 (fr14 V n j) (mkSt ls nx) (fr14 V' n j) (S3 (slT n) (.cells R true) W) := by
  have hs : StP [0, 1, d] (mkSt ls nx) [(0, tob (slT n)), (1, .cells R true), (2, W)] := .cons 0 _ rfl h0 (.of rfl) (.came (hR.came true) rfl h1 (.came hW rfl h2 .nil))
  exact Wk.heldX (kb := 2) [0, 1, d] hd hnd [0, 2, 11, 12, 13] hf hs
def QW (l : List RQ) (R : List AV) (c : List Int) (i : Nat) (q : Exit × AFr × ASt) : Prop := (∃ r, l[i]? = some r ∧ Stops 2 .normal (fr14 (Vr 2 (c ++ [r.num])) l.length (i + 1)) (S3 (slT l.length) (.cells R true) (Bn (c ++ [r.num]))) q) ∨ (i = l.length ∧ Stops 2 (.exit 0) (fr14 (Vr 2 c) l.length i) (S3 (slT l.length) (.cells R true) (Bn c)) q)
theorem roundW (hl : l.length < 1099511627776) (hc : c.length < 1099511627776) (hR : RowR R l) (hi : i ≤ l.length) : Trip Try.prog 2 none L14 (fr14 (Vr 2 c) l.length i) (S3 (slT l.length) (.cells R true) (Bn c)) (QW l R c i) := by
  have fin : ∀ {y : Bool} {k : Nat} {a b : Int} {u : Bool} {N : AO} {ys}, (tWr y (Vr 2 c) l.length i k a b u (.cells R true) (Bn c) N).allY (fun r => QW l R c i (canR [0, 2, 11, 12, 13] KO r)) ys → Trip Try.prog 2 none L14 (fr14 (Vr 2 c) l.length i) (S3 (slT l.length) (.cells R true) (Bn c)) (QW l R c i) := fun h =>
    (Trip.runY EDok noSum_ok h).mono fun q hq => hq.imp (fun ⟨r, h1, h2⟩ => ⟨r, h1, h2.can⟩) (fun h => ⟨h.1, h.2.can⟩)
  by_cases e : i < l.length
  · obtain ⟨r, hr⟩ : ∃ r, l[i]? = some r := ⟨_, List.getElem?_eq_getElem e⟩
    have e1 : wrapF .i64 (Int.ofNat i + Int.ofNat 1) = .ofNat (i + 1) := wI e (by omega)
    refine fin (y := r.way) (k := c.length) (a := r.num) (b := r.blk) (u := r.wr) (N := .cells (c.map cu ++ [cu r.num]) true) (Eq.mp (vcWr r.way (Vr 2 c) l.length i c.length r.num r.blk r.wr (.cells R true) (Bn c) (.cells (c.map cu ++ [cu r.num]) true) (QW l R c i)) (ifB_mk (fun _ => ⟨didx dl35 e, dload (rw := true) dg81 hR (by kernel_rfl) hr, (push_at dp42 (j := 4) (a := r.num) hc (by kernel_rfl) (by kernel_rfl) rfl).trans ?_, .inl ⟨r, hr, rfl, ?_⟩⟩) fun h => nlt' e h))
    · cases c <;> kernel_rfl
    · rw [e1, Vr_push, Bn_push]
      exact heldW (d := 5) (by kernel_rfl) (by kernel_rfl) (by kernel_rfl) (by kernel_rfl) (by kernel_rfl) hR push_came (by kernel_rfl)
  · have ek : i = l.length := by omega
    refine fin (y := false) (k := 0) (a := 0) (b := 0) (u := false) (N := .dead) (Eq.mp (vcWr false (Vr 2 c) l.length i 0 0 0 false (.cells R true) (Bn c) .dead (QW l R c i)) (ifB_mk (fun h => ?_) fun _ => .inr ⟨ek, rfl, Wk.refl _ _ _⟩))
    rw [ltF_nn] at h
    exact absurd (of_decide_eq_true h) e
theorem loopW (hl : l.length < 549755813888) (hR : RowR R l) : Trip Try.prog 2 none (.block 0 (.loop L14)) (fr14 nilA l.length 0) (S3 (slT l.length) (.cells R true) (Bn [])) (Stops 2 .normal (fr14 (Vr 2 (allN l)) l.length l.length) (S3 (slT l.length) (.cells R true) (Bn (allN l)))) := by
  refine Trip.block (Trip.loop (fun μ fr st => ∃ k c, k ≤ l.length ∧ μ = l.length - k ∧ allN (l.take k) = c ∧ fr = fr14 (Vr 2 c) l.length k ∧ st = S3 (slT l.length) (.cells R true) (Bn c)) ?_ l.length ⟨0, [], by omega, by omega, rfl, rfl, rfl⟩)
  rintro μ fr st ⟨k, c, hk, rfl, rfl, rfl, rfl⟩
  refine (roundW (by omega) (by unfold allN; rw [List.length_map, List.length_take]; omega) hR hk).mono ?_
  rintro ⟨e, fr', st'⟩ (⟨r, h2, h4, h5⟩ | ⟨h2, h4, h5⟩)
  · simp only at h4
    subst h4
    have hk2 : k < l.length := (List.getElem?_eq_some_iff.1 h2).1
    exact ⟨l.length - (k + 1), _, _, by omega, h5, k + 1, _, by omega, rfl, by unfold allN; rw [List.take_add_one, h2, List.map_append]; rfl, rfl, rfl⟩
  · simp only at h4
    subst h4
    subst h2
    rw [List.take_length] at h5
    exact ⟨fun _ => ⟨rfl, h5⟩, fun h => absurd rfl h⟩
theorem shape14 : dropC 1 c14 = .seq (.seq (seqL (seqL (dropC 1 c14))) (.block 0 (.loop L14))) (dropC 2 c14) := by kernel_rfl
theorem vcWz (V : AV) (n : Nat) (R' O : AO) (R : AV × ASt → Prop) : ((Exit.ret = .normal ∨ Exit.ret = .ret) ∧ ∃ v, some (V, (mkSt [(0, tob (slT n)), (1, R'), (2, O), (0, tob nilA)] 3)) = some v ∧ R v) =
    ((TM ED noSum [] fl0 60).ex fl0 none (dropC 2 c14) (fr14 V n n) (S3 (slT n) R' O)).allY (fun r => (r.1 = .normal ∨ r.1 = .ret) ∧ ∃ v, leaveA ED Try.f14 r.2.1 r.2.2 = some v ∧ R v) .nil := by kernel_rfl
theorem bodyW (hl : l.length < 549755813888) (hR : RowR R l) : Trip Try.prog 2 none c14 { m := putArgs [p0] 0 .e, n := 27, defs := [] } (mkSt [(0, tob (slT l.length)), (1, .cells R true)] 2) fun r => (r.1 = .normal ∨ r.1 = .ret) ∧ ∃ v, leaveA ED Try.f14 r.2.1 r.2.2 = some v ∧ v = (Vr 2 (allN l), S3 nilA (.cells R true) (Bn (allN l))) := by
  refine Trip.preY EDok noSum_ok (k := 1) (kf := [0, 2]) (ko := [0, 1]) (by kernel_rfl) (Q1 := fun q => q = (.normal, xFr [(0, p0), (2, nilA)] 27, vcWa_s0 l.length (.cells R true))) (Eq.mp (vcWa l.length (.cells R true) (fun q => q = (.normal, xFr [(0, p0), (2, nilA)] 27, vcWa_s0 l.length (.cells R true)))) rfl) ?_ (fun q h1 h2 => absurd (congrArg Prod.fst h2) h1)
  rintro F' S' h
  cases h
  have hs : StP [0, 1, 9] (vcWa_s0 l.length (.cells R true)) [(0, tob (slT l.length)), (1, .cells R true), (2, .dead)] := .cons 0 _ rfl (by kernel_rfl : _ = some (tob (slT l.length))) (.of rfl) (.came (hR.came true) rfl (by kernel_rfl) (.dead (j := 2) (by decide) .nil))
  have hf : frE [0, 1, 9] (xFr [(0, p0), (2, nilA)] 27) [0, 2] = some [(0, p0), (2, nilA)] := by kernel_rfl
  refine Trip.less (Wk.heldX (kb := 2) [0, 1, 9] (by kernel_rfl) (by kernel_rfl) [0, 2] hf hs) ?_
  rw [shape14]
  refine Trip.seq (R := Stops 2 .normal (fr14 (Vr 2 (allN l)) l.length l.length) (S3 (slT l.length) (.cells R true) (Bn (allN l)))) (Trip.seq (R := Stops 2 .normal (fr14 nilA l.length 0) (S3 (slT l.length) (.cells R true) (Bn [])))
    ((Trip.runY EDok noSum_ok (Eq.mp (vcWi l.length (.cells R true) .dead (Stops 2 .normal (fr14 nilA l.length 0) (S3 (slT l.length) (.cells R true) (Bn [])))) ⟨rfl, Wk.refl _ _ _⟩)).mono fun q hq => Stops.can hq) (fun fr' st' hq => Trip.less hq.2 (loopW hl hR)) (fun e fr' st' hne hq => absurd hq.1 hne)) (fun fr' st' hq => ?_) (fun e fr' st' hne hq => absurd hq.1 hne)
  refine Trip.less hq.2 (Trip.runY EDok noSum_ok (Eq.mp (vcWz (Vr 2 (allN l)) l.length (.cells R true) (Bn (allN l)) (fun v => v = (Vr 2 (allN l), S3 nilA (.cells R true) (Bn (allN l))))) ⟨.inr rfl, _, rfl, ?_⟩))
  kernel_rfl
theorem clearRun (hl : l.length < 549755813888) (hR : RowR R l) (B : Prot) (w0 : World) (ι : Ren) (W : World) (args' : Array Value) (hB : ∀ i, ¬ B.rs i) (hsr : SR B w0 ι (mkSt [(0, tob (slT l.length)), (1, .cells R true)] 2) W) (hv : VRs ι [p0] args') :
    (callFunc 14 args').run Try.prog W = .ok (.enter 14 args') W ∧ CallsIn Fence.wide 0 Try.prog 14 args' W fun e w' => ∃ v, v = (Vr 2 (allN l), S3 nilA (.cells R true) (Bn (allN l))) ∧ Post B w0 ι v e w' :=
  Trip.call EDok (fn := Try.f14) (by kernel_rfl) (by kernel_rfl : Try.f14.body = some c14) (by kernel_rfl) (bodyW hl hR) B hB w0 ι W args' hsr hv
end
end Go.Proofs.Ytelehjeifhelnaa.ovp
end

section
open Go Go.Ax Go.Proofs
namespace Go.Proofs.Ytelehjeifhelnaa.ovp
set_option linter.unusedVariables false
theorem over_app : ∀ {B C N : List AV}, B.length = N.length → over N (B ++ C) = some (N ++ C)
  | [], C, [], _ => by simp [over]
  | b :: B, C, n :: N, h => by
    show (match over N (B ++ C) with | some r => some (n :: r) | none => none) = _
    rw [over_app (by simpa using h)]; rfl
  | [], _, _ :: _, h => by cases h
  | _ :: _, _, [], h => by cases h
theorem setL_mid {A B C N : List AV} (h : B.length = N.length) : setL (A ++ (B ++ C)) A.length N = some (A ++ (N ++ C)) := by
  rw [setL_eq]
  induction A with
  | nil =>
    have e : ∀ cs : List AV, setL0 cs 0 N = over N cs := fun cs => by cases cs <;> rfl
    rw [List.nil_append, List.nil_append]
    exact (e _).trans (over_app h)
  | cons a A ih =>
    show (match setL0 (A ++ (B ++ C)) A.length N with | some r => some (a :: r) | none => none) = _
    rw [ih]; rfl
theorem setL_one : ∀ {cs : List AV} {o : Nat} {v : AV}, o < cs.length → setL cs o [v] = some (cs.set o v) := by
  intro cs o v h
  rw [setL_eq]
  induction cs generalizing o with
  | nil => simp at h
  | cons c cs ih =>
    cases o with
    | zero => rfl
    | succ o =>
      show (match setL0 cs o [v] with | some r => some (c :: r) | none => none) = _
      rw [ih (by simpa using h)]; rfl
theorem store_bool {E : Env} {S : ASt} {cs : List AV} {i j : Nat} {z : Bool} (hE : (match E.ty.get 4 with | some ti => Nat.beq 1 ti.size | none => false) = true) (hS : S.h.get i = some (.cells cs true)) (hj : j < cs.length) : aStore E 4 (.ptr (some (i, j))) (.bool z) S = some (S.put i (.cells (cs.set j (.bool z)) true)) := by
  obtain ⟨ti, h1, h2⟩ : ∃ ti, E.ty.get 4 = some ti ∧ Nat.beq 1 ti.size = true := by
    cases e : E.ty.get 4 with
    | none => rw [e] at hE; cases hE
    | some ti => rw [e] at hE; exact ⟨ti, rfl, hE⟩
  simp only [aStore, hS, h1, h2, cond_true, setL_one hj]
theorem fm_set {α : Type} {enc : α → List AV} {z : Nat} (hz : ∀ x, (enc x).length = z) : ∀ {l : List α} {i k : Nat} {r r' : α} {v : AV}, l[i]? = some r → k < z → (enc r).set k v = enc r' → (l.set i r').flatMap enc = (l.flatMap enc).set (i * z + k) v
  | [], i, k, r, r', v, h, _, _ => by simp at h
  | x :: l, 0, k, r, r', v, h, hk, he => by
    simp at h
    subst h
    rw [List.set_cons_zero, List.flatMap_cons, List.flatMap_cons, Nat.zero_mul, Nat.zero_add, List.set_append_left _ _ (by rw [hz]; exact hk), he]
  | x :: l, i + 1, k, r, r', v, h, hk, he => by
    rw [List.set_cons_succ, List.flatMap_cons, List.flatMap_cons, fm_set hz (by simpa using h) hk he, List.set_append_right _ _ (by rw [hz, Nat.add_mul]; omega)]
    congr 2
    rw [hz, Nat.add_mul]; omega
section
variable {S : ASt} {b n i j : Nat} {cs : List AV} {rw : Bool}
theorem room_is (hS : S.h.get b = some (.cells cs rw)) (hn : n ≤ j) (hl : cs.length = j * 4) : aRoom S b 0 4 n = j := by
  unfold aRoom
  rw [hS]
  show Nat.max n (Nat.div (Nat.sub cs.length 0) 4) = j
  have e : Nat.div (Nat.sub cs.length 0) 4 = j := by
    show (cs.length - 0) / 4 = j
    rw [hl]; omega
  rw [e]
  exact Nat.max_eq_right hn
theorem slice_hi (hb : 0 < n) (hi : i ≤ n) : still S (aSlice ED 35 (.slice (some (b, 0)) n (.rest 4)) none (some (.int .i64 (.ofNat i))) none S) = some (.slice (some (b, 0)) i (.rest 4), S) := by
  have e : aSlice ED 35 (.slice (some (b, 0)) n (.rest 4)) none (some (.int .i64 (.ofNat i))) none S =
    (match (bif Nat.ble i (aRoom S b 0 4 n) then bif true then some (0, i, aRoom S b 0 4 n) else none else none : Option (Nat × Nat × Nat)) with
      | some (l, h, m) => bif Nat.blt l (aRoom S b 0 4 n) then some (.slice (some (b, 0 + l * 4)) (h - l) (.rest 4)) else bif Nat.beq l 0 then some (.slice (some (b, 0)) 0 (.rest 4)) else some .slice0
      | none => none) := by kernel_rfl
  have hr : n ≤ aRoom S b 0 4 n := Nat.le_of_ble_eq_true room_le
  have hlt : Nat.blt 0 (aRoom S b 0 4 n) = true := by rw [Nat.blt_eq]; omega
  rw [e, Nat.ble_eq_true_of_le (show i ≤ aRoom S b 0 4 n by omega), cond_true, cond_true]
  simp only [hlt, cond_true]
  rfl
theorem slice_lhm (hi : i ≤ j) (hj : j ≤ n) : ∃ V, still S (aSlice ED 35 (.slice (some (b, 0)) n (.rest 4)) (some (.int .i64 (.ofNat i))) (some (.int .i64 (.ofNat j))) (some (.int .i64 (.ofNat n))) S) = some (V, S) := by
  have e : aSlice ED 35 (.slice (some (b, 0)) n (.rest 4)) (some (.int .i64 (.ofNat i))) (some (.int .i64 (.ofNat j))) (some (.int .i64 (.ofNat n))) S =
    (match (bif Nat.ble n (aRoom S b 0 4 n) then bif Nat.ble j n then bif Nat.ble i j then some (i, j, n) else none else none else none : Option (Nat × Nat × Nat)) with
      | some (l, h, m) => some (.slice (some (b, bif Nat.beq m l then 0 else 0 + l * 4)) (h - l) (.known (m - l)))
      | none => none) := by kernel_rfl
  rw [e, room_le, cond_true, Nat.ble_eq_true_of_le hj, cond_true, Nat.ble_eq_true_of_le hi, cond_true]
  exact ⟨_, rfl⟩
theorem slice_lo (hS : S.h.get b = some (.cells cs rw)) (hl : cs.length = n * 4) (hi : i < n) : still S (aSlice ED 35 (.slice (some (b, 0)) n (.rest 4)) (some (.int .i64 (.ofNat i))) none none S) = some (.slice (some (b, i * 4)) (n - i) (.rest 4), S) := by
  have e : aSlice ED 35 (.slice (some (b, 0)) n (.rest 4)) (some (.int .i64 (.ofNat i))) none none S =
    (match (bif true then bif Nat.ble i n then some (i, n, aRoom S b 0 4 n) else none else none : Option (Nat × Nat × Nat)) with
      | some (l, h, m) => bif Nat.blt l (aRoom S b 0 4 n) then some (.slice (some (b, 0 + l * 4)) (h - l) (.rest 4)) else bif Nat.beq l 0 then some (.slice (some (b, 0)) 0 (.rest 4)) else some .slice0
      | none => none) := by kernel_rfl
  have hlt : Nat.blt i (aRoom S b 0 4 n) = true := by rw [room_is hS (Nat.le_refl _) hl, Nat.blt_eq]; exact hi
  rw [e, Nat.ble_eq_true_of_le (show i ≤ n by omega), cond_true, cond_true]
  simp only [hlt, cond_true, Nat.zero_add]
  rfl
theorem slice_end (hS : S.h.get b = some (.cells cs rw)) (hl : cs.length = n * 4) (hn : 0 < n) : still S (aSlice ED 35 (.slice (some (b, 0)) n (.rest 4)) (some (.int .i64 (.ofNat n))) none none S) = some (.slice0, S) := by
  have e : aSlice ED 35 (.slice (some (b, 0)) n (.rest 4)) (some (.int .i64 (.ofNat n))) none none S =
    (match (bif true then bif Nat.ble n n then some (n, n, aRoom S b 0 4 n) else none else none : Option (Nat × Nat × Nat)) with
      | some (l, h, m) => bif Nat.blt l (aRoom S b 0 4 n) then some (.slice (some (b, 0 + l * 4)) (h - l) (.rest 4)) else bif Nat.beq l 0 then some (.slice (some (b, 0)) 0 (.rest 4)) else some .slice0
      | none => none) := by kernel_rfl
  have hlt : Nat.blt n (aRoom S b 0 4 n) = false := by
    rw [room_is hS (Nat.le_refl _) hl]
    cases h : Nat.blt n n with
    | false => rfl
    | true => rw [Nat.blt_eq] at h; omega
  have h0 : Nat.beq n 0 = false := by
    cases n with
    | zero => omega
    | succ n => rfl
  rw [e, Nat.ble_eq_true_of_le (Nat.le_refl n), cond_true, cond_true]
  simp only [hlt, cond_false, h0]
  rfl
theorem slice_lh (hS : S.h.get b = some (.cells cs rw)) (hl : cs.length = (n + 1) * 4) : still S (aSlice ED 35 (.slice (some (b, 0)) n (.rest 4)) (some (.int .i64 (.ofNat n))) (some (.int .i64 (.ofNat (n + 1)))) none S) = some (.slice (some (b, n * 4)) 1 (.rest 4), S) := by
  have e : aSlice ED 35 (.slice (some (b, 0)) n (.rest 4)) (some (.int .i64 (.ofNat n))) (some (.int .i64 (.ofNat (n + 1)))) none S =
    (match (bif Nat.ble (n + 1) (aRoom S b 0 4 n) then bif Nat.ble n (n + 1) then some (n, n + 1, aRoom S b 0 4 n) else none else none : Option (Nat × Nat × Nat)) with
      | some (l, h, m) => bif Nat.blt l (aRoom S b 0 4 n) then some (.slice (some (b, 0 + l * 4)) (h - l) (.rest 4)) else bif Nat.beq l 0 then some (.slice (some (b, 0)) 0 (.rest 4)) else some .slice0
      | none => none) := by kernel_rfl
  have hlt : Nat.blt n (n + 1) = true := by rw [Nat.blt_eq]; omega
  rw [e, room_is hS (show n ≤ n + 1 by omega) hl, Nat.ble_eq_true_of_le (Nat.le_refl _), cond_true, Nat.ble_eq_true_of_le (show n ≤ n + 1 by omega), cond_true]
  simp only [hlt, cond_true, Nat.zero_add, Nat.add_sub_cancel_left]
  rfl
theorem append_room_at {E : Env} {sT xT : TypeId} {z bb m l : Nat} {x : AV} {A B C N : List AV} (hT : appT E sT xT = some (z, bb)) (hn : aLen x = some m) (hf : aFirst S z m x = some N) (hS : S.h.get b = some (.cells (A ++ (B ++ C)) true))
    (hA : A.length = l * z) (hB : B.length = N.length) (hN : N.length = m * z) (hz : 0 < z) :
    aBuiltinM E .append [sT, xT] [.slice (some (b, 0)) l (.rest z), x] S = some (.slice (some (b, 0)) (l + m) (.rest z), bif Nat.beq m 0 then S else S.put b (.cells (A ++ (N ++ C)) true)) := by
  obtain ⟨ei, rfl, rfl, h⟩ := append_red (s := .slice (some (b, 0)) l (.rest z)) hT hn hf
  rw [h]
  cases e : Nat.beq m 0 with
  | true =>
    simp only [aAppendTo, e, cond_true]
    rw [Nat.eq_of_beq_eq_true e]; rfl
  | false =>
    have hroom : inRoom S b (0 + (l + m) * ei.size) ei.size = true := by
      unfold inRoom
      simp only [hS]
      rw [Nat.ble_eq_true_of_le (by rw [List.length_append, List.length_append, hA, hB, hN, Nat.zero_add, Nat.add_mul]; omega), cond_true, Nat.blt_eq]
      exact hz
    have hset : setL (A ++ (B ++ C)) (0 + l * ei.size) N = some (A ++ (N ++ C)) := by
      rw [Nat.zero_add, ← hA]; exact setL_mid hB
    simp only [aAppendTo, e, cond_false, Nat.beq_refl, cond_true, hroom, hS, hset]
theorem clear_at {A B : List AV} (hS : S.h.get b = some (.cells (A ++ B) true)) (hA : A.length = n * 4) (hB : B.length = 4) :
    aBuiltinM ED .clear [35] [.slice (some (b, n * 4)) 1 (.rest 4)] S = some (.tuple [], S.put b (.cells (A ++ [.int .u64 (.ofNat 0), .int .i64 (.ofNat 0), .bool false, .bool false]) true)) := by
  have e : aBuiltinM ED .clear [35] [.slice (some (b, n * 4)) 1 (.rest 4)] S = (match (match S.h.get b with | some (.cells cs true) => (match setL cs (n * 4) [.int .u64 (.ofNat 0), .int .i64 (.ofNat 0), .bool false, .bool false] with | some cs' => some (S.put b (.cells cs' true)) | none => none) | _ => none) with | some st' => some (.tuple [], st') | none => none) := by kernel_rfl
  have hset : setL (A ++ B) (n * 4) [.int .u64 (.ofNat 0), .int .i64 (.ofNat 0), .bool false, .bool false] = some (A ++ [.int .u64 (.ofNat 0), .int .i64 (.ofNat 0), .bool false, .bool false]) := by
    have := setL_mid (A := A) (B := B) (C := []) (N := [.int .u64 (.ofNat 0), .int .i64 (.ofNat 0), .bool false, .bool false]) hB
    rw [List.append_nil, List.append_nil, hA] at this
    exact this
  rw [e, hS]
  simp only [hset]
end
end Go.Proofs.Ytelehjeifhelnaa.ovp
end

section
open Go Go.Ax Go.Proofs
namespace Go.Proofs.Ytelehjeifhelnaa.ovp
set_option linter.unusedVariables false
section
variable {S : ASt} {b r o : Nat} {rw' : Bool} {c : Cap} {l : List RQ}
theorem read0' {f : Nat} {A A' F v : AV} (hA : ∀ (ι κ : Ren) x, VR ι A' x → VR κ A x) (hF : refsV 0 F) (hrun : AtMem Try.prog f [A, F] (mkSt [] 0) v) (hp : refsV 0 v) : Call1 Try.prog f [A', F] S (v, S) :=
  Call1.read hrun hp (l := []) rfl (fun j x hj => by
    have : (mkSt [] 0).h.get j = none := T.get_e j
    rw [this] at hj; cases hj) (fun j q hq => by simp at hq) fun ι args' hv => ⟨hv.size, fun k y y' hy hy' => by
    match k, hy with
    | 0, hy => simp at hy; subst hy; exact hA ι _ _ (hv.at_ 0 _ y' rfl hy')
    | 1, hy => simp at hy; subst hy; exact (hv.at_ 1 _ y' rfl hy').noRef hF
    | k + 2, hy => simp at hy⟩
theorem VR.to0 {ι κ : Ren} {p : Nat × Nat} {x : Value} (h : VR ι (.slice (some p) 0 c) x) : VR κ .slice0 x := by
  cases h with
  | slice _ _ _ c' L _ hL hc hl => exact .slice0 _ _
theorem cont_0 {rr : RQ} : Call1 Try.prog 44 [.slice (some (r, o)) 0 c, bd rr] S (.bool false, S) := by
  have hc : Call1 Try.prog 65 [.slice0, bd rr] (mkSt [] 0) (.int .i64 (-1), mkSt [] 0) :=
    read0 (by simp [refsV]) bd_refs (AtMem.of_tm EVok noSum_ok (Eq.mp (vcN1 _ _ (fun q => q.1 = .int .i64 (-1))) rfl)) (by simp [refsV])
  have hq : CallsOK Try.prog (smV (tabC [(65, [.slice0, bd rr], mkSt [] 0, (.int .i64 (-1), mkSt [] 0))])) := onlyC_ok (tabC_ok fun e he => by
    simp only [List.mem_cons, List.not_mem_nil, or_false] at he
    subst he; exact hc)
  exact read0' (fun ι κ x h => VR.to0 h) bd_refs (AtMem.of_tm EVok hq (Eq.mp (vcQ (tabC _) _ (bd rr) (-1) (mkSt [] 0) (fun q => q.1 = .bool false)) ⟨call_at (onlyC_at rfl (tabC_hd ..)), rfl⟩)) (by simp [refsV])
theorem find_e {m : Int} {A A' : AV} (hA : ∀ (ι κ : Ren) x, VR ι A' x → VR κ A x) (h0 : AtMem Try.prog 65 [A, .clos 66 [.ptr (some (0, 0))]] (mkSt [(0, .cells [.int .u64 m] false)] 1) (.int .i64 (-1))) (hb : S.h.get b = some (.cells [.int .u64 m] rw')) :
    Call1 Try.prog 65 [A', .clos 66 [.ptr (some (b, 0))]] S (.int .i64 (-1), S) := by
  refine Call1.read h0 (by simp [refsV]) (l := [(b, 0, [.int .u64 m])]) rfl (fun j x hj => ?_) (fun j q hq => ?_) fun ι args' hv => ⟨hv.size, fun k y y' hy hy' => ?_⟩
  · obtain ⟨rfl, rfl⟩ := get1 hj
    exact ⟨_, rfl, rfl⟩
  · match j, hq with
    | 0, hq => simp at hq; subst hq; exact ⟨by simp, by simp [refsV], _, _, hb, by kernel_rfl⟩
    | j + 1, hq => simp at hq
  · match k, hy with
    | 0, hy => simp at hy; subst hy; exact hA ι _ _ (hv.at_ 0 _ y' rfl hy')
    | 1, hy =>
      simp at hy; subst hy
      cases hv.at_ 1 _ y' rfl hy' with
      | clos f ds ds' hs h =>
        refine .clos _ _ _ hs fun i x x' hx hx' => ?_
        match i, hx with
        | 0, hx => simp at hx; subst hx; exact VR.ptrR (l := [(b, 0, [.int .u64 m])]) (j := 0) rfl rfl rfl (h 0 _ x' rfl hx')
        | i + 1, hx => simp at hx
    | k + 2, hy => simp at hy
theorem find_00 {m : Int} (hb : S.h.get b = some (.cells [.int .u64 m] rw')) : Call1 Try.prog 65 [.slice (some (r, o)) 0 c, .clos 66 [.ptr (some (b, 0))]] S (.int .i64 (-1), S) :=
  find_e (fun ι κ x h => VR.to0 h) (AtMem.of_tm EVok noSum_ok (Eq.mp (vcN1 _ _ (fun q => q.1 = .int .i64 (-1))) rfl)) hb
theorem cont_row {rr : RQ} (hl : l.length < 4611686018427387904) (hr : RowIn S r l) : Call1 Try.prog 44 [.slice (some (r, 0)) l.length c, bd rr] S (.bool (l.any (hindB rr)), S) := by
  cases l with
  | nil => exact cont_0
  | cons x l => exact cont_any hl (by simp) hr
theorem find_row {m : Int} (hl : l.length < 4611686018427387904) (hr : RowIn S r l) (hb : S.h.get b = some (.cells [.int .u64 m] rw')) : Call1 Try.prog 65 [.slice (some (r, 0)) l.length c, .clos 66 [.ptr (some (b, 0))]] S (.int .i64 (idxV (findP m) l), S) := by
  cases l with
  | nil => exact find_00 hb
  | cons x l => exact find_any hl (by simp) hr hb
end
def stepP (s : List RQ × List Int) (i : Nat) : List RQ × List Int :=
  match s.1[i]? with
  | none => s
  | some r => bif r.way then s else bif (s.1.take i).any (hindB r) then s else (s.1.set i { r with way := true }, s.2 ++ [r.num])
def promK (T : List RQ) (k : Nat) : List RQ × List Int := (List.range k).foldl stepP (T, [])
def promP (T : List RQ) : List RQ × List Int := promK T T.length
theorem promK_succ {T : List RQ} {k : Nat} : promK T (k + 1) = stepP (promK T k) k := by
  unfold promK
  rw [List.range_succ, List.foldl_append]; rfl
theorem stepP_len {s : List RQ × List Int} {i : Nat} : (stepP s i).1.length = s.1.length ∧ (stepP s i).2.length ≤ s.2.length + 1 := by
  unfold stepP
  split
  · exact ⟨rfl, by omega⟩
  · rename_i r _
    cases r.way with
    | true => exact ⟨rfl, by show s.2.length ≤ _; omega⟩
    | false =>
      rw [cond_false]
      cases (s.1.take i).any (hindB r) with
      | true => exact ⟨rfl, by show s.2.length ≤ _; omega⟩
      | false => exact ⟨by rw [cond_false, List.length_set], by rw [cond_false, List.length_append]; exact Nat.le_refl _⟩
theorem promK_len {T : List RQ} : ∀ k, (promK T k).1.length = T.length ∧ (promK T k).2.length ≤ k
  | 0 => ⟨rfl, Nat.le_refl _⟩
  | k + 1 => by
    have h := promK_len (T := T) k
    have h2 := stepP_len (s := promK T k) (i := k)
    rw [promK_succ]
    exact ⟨h2.1.trans h.1, by omega⟩
def zero4 : List AV := [.int .u64 (.ofNat 0), .int .i64 (.ofNat 0), .bool false, .bool false]
section
variable {U Z : List AV} {T : List RQ} {c : List Int} {i n k : Nat} {r : RQ} {S : ASt}
def stepR (r : RQ) : RQ := { r with way := true }
noncomputable def rowZ (T : List RQ) (Z : List AV) : AO := .cells (T.flatMap enc4 ++ Z) true
theorem rowZ_R (hZ : ∀ c, c ∈ Z → refsV 0 c) : RowR (T.flatMap enc4 ++ Z) T := ⟨fun c hc => (List.mem_append.1 hc).elim (enc4_refs c) (hZ c), by
  unfold takeL
  simp⟩
theorem heldX {nx d j : Nat} {V V' : AV} {ls : List (Nat × AO)} {W : AO} (hd : preB 2 0 [0, 1, 2, d] = true) (hnd : noDup [0, 1, 2, d] = true) (h0 : (mkSt ls nx).h.get 0 = some (tob (slK n))) (h1 : (mkSt ls nx).h.get 2 = some (rowZ T Z)) (h2 : (mkSt ls nx).h.get d = some W) (hZ : ∀ c, c ∈ Z → refsV 0 c) (hW : Came W)
    (hf : frE [0, 1, 2, d] (fr13 V n j) [0, 4, 5, 32, 33, 34] = some [(0, p0), (4, V'), (5, .int .i64 0), (32, slK n), (33, nI n), (34, nI j)]) :
    Wk 2 (fr13 V n j) (mkSt ls nx) (fr13 V' n j) (S4 n (rowZ T Z) W) := by
  have hs : StP [0, 1, 2, d] (mkSt ls nx) [(0, tob (slK n)), (1, .dead), (2, rowZ T Z), (3, W)] := .cons 0 _ rfl h0 (.of rfl) (.dead (j := 1) (by show 1 < 4; decide) (.came ((rowZ_R hZ).came true) rfl h1 (.came hW rfl h2 .nil)))
  exact Wk.heldX (kb := 2) [0, 1, 2, d] hd hnd [0, 4, 5, 32, 33, 34] hf hs
def QX (T : List RQ) (Z : List AV) (c : List Int) (i : Nat) (q : Exit × AFr × ASt) : Prop := (i < T.length ∧ Stops 2 .normal (fr13 (Vr 3 (stepP (T, c) i).2) T.length (i + 1)) (S4 T.length (rowZ (stepP (T, c) i).1 Z) (Bn (stepP (T, c) i).2)) q) ∨ (i = T.length ∧ Stops 2 (.exit 0) (fr13 (Vr 3 c) T.length i) (S4 T.length (rowZ T Z) (Bn c)) q)
theorem tab1 {f : Nat} {a : List AV} {S : ASt} {r : AV × ASt} (h : Call1 Try.prog f a S r) : CallsOK Try.prog (smD (tabC [(f, a, S, r)])) := onlyC_ok (tabC_ok fun e he => by
  simp only [List.mem_cons, List.not_mem_nil, or_false] at he
  subst he; exact h)
theorem sto81 {S S' : ASt} {k : Nat} {cs : List AV} {x : List AV} (hS : S.h.get k = some (.cells cs true)) (h4 : cs.length = 4) (hx : x.length = 4) (h : S.put k (.cells x true) = S') : Option.map (fun s => (undefA, s)) (aStore ED 81 (.ptr (some (k, 0))) (.agg x) S) = some (.tuple [], S') := by
  obtain ⟨ti, h1, h2⟩ : ∃ ti, ED.ty.get 81 = some ti ∧ ti.size = 4 := by
    obtain ⟨ti, h1⟩ : ∃ ti, ED.ty.get 81 = some ti := Option.isSome_iff_exists.mp (by kernel_rfl)
    refine ⟨ti, h1, ?_⟩
    have h3 : (match ED.ty.get 81 with | some ti => ti.size | none => 0) = 4 := by kernel_rfl
    rw [h1] at h3
    exact h3
  have hset : setL cs 0 x = some x := by
    have := setL_mid (A := []) (B := cs) (C := []) (N := x) (by omega)
    simpa using this
  simp only [aStore, hS, h1, h2, hx, Nat.beq_refl, cond_true, hset]
  rw [← h]; rfl
theorem roundX (hl : T.length < 1099511627776) (hc : c.length < 1099511627776) (hZ : ∀ c, c ∈ Z → refsV 0 c) (hi : i ≤ T.length) : Trip Try.prog 2 none L13 (fr13 (Vr 3 c) T.length i) (S4 T.length (rowZ T Z) (Bn c)) (QX T Z c i) := by
  have fin : ∀ {r : Exit × AFr × ASt}, QX T Z c i (canR [0, 4, 5, 32, 33, 34] KO r) → QX T Z c i r := fun h => h.imp (fun h => ⟨h.1, h.2.can⟩) (fun h => ⟨h.1, h.2.can⟩)
  by_cases e : i < T.length
  · obtain ⟨r, hr⟩ : ∃ r, T[i]? = some r := ⟨_, List.getElem?_eq_getElem e⟩
    have e1 : wrapF .i64 (Int.ofNat i + Int.ofNat 1) = .ofNat (i + 1) := wI e (by omega)
    have hld : ∀ {S : ASt}, S.h.get 2 = some (rowZ T Z) → aLoad ED 81 (.ptr (some (2, i * 4))) S = some (.agg (enc4 r), S) := fun h => dload (rw := true) dg81 (rowZ_R hZ) h hr
    have hsl : ∀ {S : ASt}, still S (aSlice ED 35 (slK T.length) none (some (.int .i64 (.ofNat i))) none S) = some (.slice (some (2, 0)) i (.rest 4), S) := slice_hi (by omega) (by omega)
    have htk : (T.take i).length = i := by rw [List.length_take]; omega
    have hro : ∀ {S : ASt}, S.h.get 2 = some (rowZ T Z) → RowIn S 2 (T.take i) := fun h => ⟨_, true, h, by
      have e2 : T.flatMap enc4 = (T.take i).flatMap enc4 ++ (T.drop i).flatMap enc4 := by rw [← List.flatMap_append, List.take_append_drop]
      unfold takeL
      rw [e2]; simp⟩
    obtain ⟨num, blk, wr, way⟩ := r
    cases hy : way with
    | true =>
      subst hy
      have es : stepP (T, c) i = (T, c) := by unfold stepP; simp only [hr, cond_true]
      refine (Trip.runY EDok (sum := smD (tabC [])) (onlyC_ok (tabC_ok fun e he => by cases he)) (Eq.mp (vcXs (tabC []) (Vr 3 c) T.length i 0 num blk wr (rowZ T Z) .dead (Bn c) .dead (QX T Z c i)) (ifB_mk (fun _ => ⟨didx dl35 e, hld (by kernel_rfl), sto81 (cs := zero4) (by kernel_rfl) rfl rfl (by kernel_rfl), trivial, .inl ⟨e, rfl, ?_⟩⟩) fun h => nlt' e h))).mono fun q hq => fin hq
      rw [e1, es]
      exact heldX (d := 3) (by kernel_rfl) (by kernel_rfl) (by kernel_rfl) (by kernel_rfl) (by kernel_rfl) hZ (Bn_came c) (by cases c <;> kernel_rfl)
    | false =>
      subst hy
      have hcall : ∀ {S : ASt}, S.h.get 2 = some (rowZ T Z) → Call1 Try.prog 44 [.slice (some (2, 0)) i (.rest 4), .bound 45 [.agg [.int .u64 num, .int .i64 blk, .bool wr, .bool false]] []] S (.bool ((T.take i).any (hindB ⟨num, blk, wr, false⟩)), S) := fun h => by
        have := cont_row (rr := ⟨num, blk, wr, false⟩) (c := .rest 4) (l := T.take i) (by omega) (hro h)
        rw [htk] at this
        exact this
      cases hh : (T.take i).any (hindB ⟨num, blk, wr, false⟩) with
      | true =>
        have es : stepP (T, c) i = (T, c) := by unfold stepP; simp only [hr, cond_false, hh, cond_true]
        refine (Trip.runY EDok (sum := smD (tabC [_])) (tab1 (hcall (S := vcXt_s3 T.length num blk wr (rowZ T Z) (Bn c)) (by kernel_rfl))) (Eq.mp (vcXt (tabC [_]) (Vr 3 c) T.length i 0 num blk wr (rowZ T Z) .dead (Bn c) .dead (QX T Z c i)) (ifB_mk (fun _ => ⟨didx dl35 e, hld (by kernel_rfl), sto81 (cs := zero4) (by kernel_rfl) rfl rfl (by kernel_rfl), hsl, call_at (onlyC_at rfl ((tabC_hd ..).trans (by rw [hh]))), trivial, .inl ⟨e, rfl, ?_⟩⟩) fun h => nlt' e h))).mono fun q hq => fin hq
        rw [e1, es]
        exact heldX (d := 3) (by kernel_rfl) (by kernel_rfl) (by kernel_rfl) (by kernel_rfl) (by kernel_rfl) hZ (Bn_came c) (by cases c <;> kernel_rfl)
      | false =>
        have es : stepP (T, c) i = (T.set i ⟨num, blk, wr, true⟩, c ++ [num]) := by unfold stepP; simp only [hr, cond_false, hh]
        have hset : rowZ (T.set i ⟨num, blk, wr, true⟩) Z = .cells ((T.flatMap enc4 ++ Z).set (i * 4 + 3) (.bool true)) true := by
          unfold rowZ
          rw [fm_set (enc := enc4) (z := 4) enc4_len hr (k := 3) (v := .bool true) (by decide) rfl, List.set_append_left]
          rw [fm_len enc4_len]; omega
        refine (Trip.runY EDok (sum := smD (tabC [_])) (tab1 (hcall (S := vcXu_s3 T.length num blk wr (rowZ T Z) (Bn c)) (by kernel_rfl))) (Eq.mp (vcXu (tabC [_]) (Vr 3 c) T.length i c.length num blk wr (rowZ T Z) (rowZ (T.set i ⟨num, blk, wr, true⟩) Z) (Bn c) (.cells (c.map cu ++ [cu num]) true) (QX T Z c i)) (ifB_mk (fun _ => ⟨didx dl35 e, hld (by kernel_rfl), sto81 (cs := zero4) (by kernel_rfl) rfl rfl (by kernel_rfl), hsl, call_at (onlyC_at rfl ((tabC_hd ..).trans (by rw [hh]))), trivial, didx dl35 e, ?_, (push_at dp42 (j := 20) (a := num) hc (by kernel_rfl) (by kernel_rfl) rfl).trans ?_, .inl ⟨e, rfl, ?_⟩⟩) fun h => nlt' e h))).mono fun q hq => fin hq
        · rw [store_bool (by kernel_rfl) (cs := T.flatMap enc4 ++ Z) (by kernel_rfl) (by rw [List.length_append, fm_len enc4_len]; omega), hset]
          kernel_rfl
        · cases c <;> kernel_rfl
        · rw [e1, es, Vr_push, Bn_push]
          exact heldX (d := 21) (by kernel_rfl) (by kernel_rfl) (by kernel_rfl) (by kernel_rfl) (by kernel_rfl) hZ push_came (by kernel_rfl)
  · have ek : i = T.length := by omega
    refine (Trip.runY EDok (sum := smD (tabC [])) (onlyC_ok (tabC_ok fun e he => by cases he)) (Eq.mp (vcXs (tabC []) (Vr 3 c) T.length i 0 0 0 false (rowZ T Z) .dead (Bn c) .dead (QX T Z c i)) (ifB_mk (fun h => ?_) fun _ => .inr ⟨ek, rfl, Wk.refl _ _ _⟩))).mono fun q hq => fin hq
    rw [ltF_nn] at h
    exact absurd (of_decide_eq_true h) e
end
end Go.Proofs.Ytelehjeifhelnaa.ovp
end

section
open Go Go.Ax Go.Proofs
namespace Go.Proofs.Ytelehjeifhelnaa.ovp
set_option linter.unusedVariables false
theorem dp35 : appT ED 35 35 = some (4, 24) := by kernel_rfl
theorem zero4_refs : ∀ c, c ∈ zero4 → refsV 0 c := fun c hc => by
  simp only [zero4, List.mem_cons, List.not_mem_nil, or_false] at hc
  rcases hc with rfl | rfl | rfl | rfl <;> simp [refsV]
section
variable {T A D : List RQ} {x : RQ} {R : List AV} {m : Int}
theorem loopX (hl : T.length < 549755813888) : Trip Try.prog 2 none (.block 0 (.loop L13)) (fr13 nilA T.length 0) (S4 T.length (rowZ T zero4) .dead) (Stops 2 .normal (fr13 (Vr 3 (promP T).2) T.length T.length) (S4 T.length (rowZ (promP T).1 zero4) (Bn (promP T).2))) := by
  refine Trip.block (Trip.loop (fun μ fr st => ∃ j, j ≤ T.length ∧ μ = T.length - j ∧ fr = fr13 (Vr 3 (promK T j).2) T.length j ∧ st = S4 T.length (rowZ (promK T j).1 zero4) (Bn (promK T j).2)) ?_ T.length ⟨0, by omega, by omega, rfl, rfl⟩)
  rintro μ fr st ⟨j, hj, rfl, rfl, rfl⟩
  obtain ⟨h1, h2⟩ := promK_len (T := T) j
  have := roundX (T := (promK T j).1) (Z := zero4) (c := (promK T j).2) (i := j) (by omega) (by omega) zero4_refs (by omega)
  rw [h1] at this
  refine this.mono ?_
  rintro ⟨e, fr', st'⟩ (⟨h3, h4, h5⟩ | ⟨h3, h4, h5⟩)
  · simp only at h4
    subst h4
    refine ⟨T.length - (j + 1), _, _, by omega, h5, j + 1, by omega, rfl, ?_, ?_⟩
    · rw [promK_succ, h1]
    · rw [promK_succ, h1]
  · simp only at h4
    subst h4
    have h6 : j = T.length := by omega
    subst h6
    rw [h1] at h5
    exact ⟨fun _ => ⟨rfl, h5⟩, fun h => absurd rfl h⟩
theorem shape13 : dropC 4 c13 = .seq (.seq (seqL (seqL (dropC 4 c13))) (.block 0 (.loop L13))) (dropC 5 c13) := by kernel_rfl
theorem vcXz (V : AV) (n : Nat) (S : ASt) (R : AV × ASt → Prop) : ((Exit.ret = .normal ∨ Exit.ret = .ret) ∧ ∃ v, some (AV.tuple [V, .int .i64 (.ofNat 0)], S) = some v ∧ R v) =
    ((TM ED noSum [] fl0 60).ex fl0 none (dropC 5 c13) (fr13 V n n) S).allY (fun r => (r.1 = .normal ∨ r.1 = .ret) ∧ ∃ v, leaveA ED Try.f13 r.2.1 r.2.2 = some v ∧ R v) .nil := by kernel_rfl
noncomputable def doneV (T : List RQ) : AV × ASt := (.tuple [Vr 3 (promP T).2, .int .i64 (.ofNat 0)], S4 T.length (rowZ (promP T).1 zero4) (Bn (promP T).2))
theorem bodyX (hl : (A ++ x :: D).length < 549755813888) (hR : RowR R (A ++ x :: D)) (hi : idxV (findP m) (A ++ x :: D) = .ofNat A.length) :
    Trip Try.prog 2 none c13 (fr13a m) (mkSt [(0, tob (slT (A ++ x :: D).length)), (1, .cells R true)] 2) fun r => (r.1 = .normal ∨ r.1 = .ret) ∧ ∃ v, leaveA ED Try.f13 r.2.1 r.2.2 = some v ∧ v = doneV (A ++ D) := by
  have hlen : (A ++ x :: D).length = A.length + D.length + 1 := by rw [List.length_append, List.length_cons]; omega
  rw [hlen] at hl ⊢
  have hC : (A ++ x :: D).flatMap enc4 = A.flatMap enc4 ++ (((enc4 x ++ D.flatMap enc4).take (D.length * 4)) ++ ((enc4 x ++ D.flatMap enc4).drop (D.length * 4))) := by
    rw [List.take_append_drop, List.flatMap_append, List.flatMap_cons]
  have hDl : (D.flatMap enc4).length = D.length * 4 := fm_len enc4_len D
  have hAl : (A.flatMap enc4).length = A.length * 4 := fm_len enc4_len A
  have hfl : ((A ++ x :: D).flatMap enc4).length = (A.length + D.length + 1) * 4 := by rw [fm_len enc4_len, hlen]
  have hc1 : Call1 Try.prog 65 [.slice (some (1, 0)) (A.length + D.length + 1) (.rest 4), .clos 66 [.ptr (some (2, 0))]] (vcXa_s0 (A.length + D.length) m (.cells R true)) (.int .i64 (.ofNat A.length), vcXa_s0 (A.length + D.length) m (.cells R true)) := by
    have := find_row (l := A ++ x :: D) (m := m) (r := 1) (b := 2) (rw' := true) (c := .rest 4) (S := vcXa_s0 (A.length + D.length) m (.cells R true)) (by omega) (hR.row (rw := true) (by kernel_rfl)) (by kernel_rfl)
    rw [hi, hlen] at this
    exact this
  obtain ⟨V1, hV1⟩ := slice_lhm (S := vcXa_s2 (A.length + D.length) m (.cells R true) (.cells ((A ++ x :: D).flatMap enc4) true)) (b := 4) (n := A.length + D.length + 1) (i := A.length) (j := A.length + 1) (by omega) (by omega)
  obtain ⟨V2, hV2, hV2l, hV2f⟩ : ∃ V2, (still (vcXa_s3 (A.length + D.length) m (.cells R true) (.cells ((A ++ x :: D).flatMap enc4) true)) (aSlice ED 35 (.slice (some (4, 0)) (A.length + D.length + 1) (.rest 4)) (some (.int .i64 (.ofNat (A.length + 1)))) none none (vcXa_s3 (A.length + D.length) m (.cells R true) (.cells ((A ++ x :: D).flatMap enc4) true))) = some (V2, vcXa_s3 (A.length + D.length) m (.cells R true) (.cells ((A ++ x :: D).flatMap enc4) true))) ∧ aLen V2 = some D.length ∧
      aFirst (vcXa_s3 (A.length + D.length) m (.cells R true) (.cells ((A ++ x :: D).flatMap enc4) true)) 4 D.length V2 = some (D.flatMap enc4) := by
    cases hD : D with
    | nil =>
      subst hD
      exact ⟨_, slice_end (n := A.length + ([] : List RQ).length + 1) (rw := true) (cs := (A ++ [x]).flatMap enc4) (by kernel_rfl) hfl (Nat.succ_pos _), rfl, rfl⟩
    | cons d D' =>
      subst hD
      refine ⟨_, slice_lo (rw := true) (cs := (A ++ x :: d :: D').flatMap enc4) (by kernel_rfl) hfl (by simp), ?_, ?_⟩
      · show some _ = _
        simp
      · have : aFirst (vcXa_s3 (A.length + (d :: D').length) m (.cells R true) (.cells ((A ++ x :: d :: D').flatMap enc4) true)) 4 (d :: D').length (.slice (some (4, (A.length + 1) * 4)) (d :: D').length (.rest 4)) = some ((d :: D').flatMap enc4) :=
          first_at (rw := true) (cs := (A ++ x :: d :: D').flatMap enc4) (by kernel_rfl) (by
            have e := fm_takeL (enc := enc4) (z := 4) enc4_len (l := A ++ x :: d :: D') (a := A.length + 1) (n := (d :: D').length) (by simp; omega)
            rw [e]
            congr 1
            rw [show A ++ x :: d :: D' = (A ++ [x]) ++ d :: D' by simp, show A.length + 1 = (A ++ [x]).length by simp, List.drop_left, List.take_length])
        exact this
  have e1 : wrapF .i64 (Int.ofNat A.length + Int.ofNat 1) = .ofNat (A.length + 1) := wI (n := A.length + D.length + 1) (by omega) (by omega)
  have hTl : ((enc4 x ++ D.flatMap enc4).take (D.length * 4)).length = (D.flatMap enc4).length := by
    rw [List.length_take, List.length_append, hDl]
    exact Nat.min_eq_left (by omega)
  have hEl : ((enc4 x ++ D.flatMap enc4).drop (D.length * 4)).length = 4 := by
    rw [List.length_drop, List.length_append, hDl, enc4_len]; omega
  have hap := append_room_at (E := ED) (sT := 35) (xT := 35) (S := vcXa_s3 (A.length + D.length) m (.cells R true) (.cells ((A ++ x :: D).flatMap enc4) true)) (b := 4) (l := A.length) (x := V2) dp35 hV2l hV2f (by rw [← hC]; kernel_rfl) hAl hTl hDl (by decide)
  have hM : (bif Nat.beq D.length 0 then vcXa_s3 (A.length + D.length) m (.cells R true) (.cells ((A ++ x :: D).flatMap enc4) true) else (vcXa_s3 (A.length + D.length) m (.cells R true) (.cells ((A ++ x :: D).flatMap enc4) true)).put 4 (.cells (A.flatMap enc4 ++ (D.flatMap enc4 ++ (enc4 x ++ D.flatMap enc4).drop (D.length * 4))) true)) =
      vcXa_s4 (A.length + D.length) m (.cells R true) (.cells ((A.flatMap enc4 ++ D.flatMap enc4) ++ (enc4 x ++ D.flatMap enc4).drop (D.length * 4)) true) := by
    rw [List.append_assoc]
    cases D with
    | nil =>
      have : (A ++ [x]).flatMap enc4 = A.flatMap enc4 ++ (([] : List RQ).flatMap enc4 ++ (enc4 x ++ ([] : List RQ).flatMap enc4).drop (([] : List RQ).length * 4)) := by simp
      exact congrArg (fun c => vcXa_s4 (A.length + ([] : List RQ).length) m (.cells R true) (.cells c true)) this
    | cons d D => kernel_rfl
  rw [hM] at hap
  have hADl : (A.flatMap enc4 ++ D.flatMap enc4).length = (A.length + D.length) * 4 := by rw [List.length_append, hAl, hDl]; omega
  have hlh := slice_lh (S := vcXa_s4 (A.length + D.length) m (.cells R true) (.cells ((A.flatMap enc4 ++ D.flatMap enc4) ++ (enc4 x ++ D.flatMap enc4).drop (D.length * 4)) true)) (b := 4) (n := A.length + D.length) (cs := (A.flatMap enc4 ++ D.flatMap enc4) ++ (enc4 x ++ D.flatMap enc4).drop (D.length * 4)) (rw := true) (by kernel_rfl) (by rw [List.length_append, hADl, hEl]; omega)
  have hcl := clear_at (S := vcXa_s4 (A.length + D.length) m (.cells R true) (.cells ((A.flatMap enc4 ++ D.flatMap enc4) ++ (enc4 x ++ D.flatMap enc4).drop (D.length * 4)) true)) (b := 4) (n := A.length + D.length) (A := A.flatMap enc4 ++ D.flatMap enc4) (B := (enc4 x ++ D.flatMap enc4).drop (D.length * 4)) (by kernel_rfl) hADl hEl
  have hN : AO.cells ((A.flatMap enc4 ++ D.flatMap enc4) ++ zero4) true = rowZ (A ++ D) zero4 := by unfold rowZ; rw [List.flatMap_append]
  have hn1 : (2 * (A.length + D.length + 1) + 200) * 24 ≤ 281474976710656 := by omega
  refine Trip.preY EDok (sum := smD (tabC [_])) (tab1 hc1) (k := 4) (kf := [0, 1, 4, 5, 6]) (ko := KO) (by kernel_rfl) (Q1 := fun q => q = (.normal, xFr [(0, p0), (1, .int .u64 m), (4, nilA), (5, .int .i64 (.ofNat 0)), (6, nI A.length)] 68, vcXa_s6 (A.length + D.length) m (.cells R true) (rowZ (A ++ D) zero4)))
    (Eq.mp (vcXa (tabC [_]) (A.length + D.length) A.length m V1 V2 (.slice (some (4, (A.length + D.length) * 4)) 1 (.rest 4)) .slice0 (.cells R true) (.cells ((A ++ x :: D).flatMap enc4) true) (.cells ((A.flatMap enc4 ++ D.flatMap enc4) ++ (enc4 x ++ D.flatMap enc4).drop (D.length * 4)) true) (rowZ (A ++ D) zero4) (fun q => q = (.normal, xFr [(0, p0), (1, .int .u64 m), (4, nilA), (5, .int .i64 (.ofNat 0)), (6, nI A.length)] 68, vcXa_s6 (A.length + D.length) m (.cells R true) (rowZ (A ++ D) zero4))))
      ⟨call_at (onlyC_at rfl (tabC_hd ..)), ?_, by rw [e1]; exact hV1, ?_, slice_hi (by omega) (by omega), by rw [e1]; exact hV2, hap, trivial, hlh, hcl.trans ?_, rfl⟩) ?_ (fun q h1 h2 => absurd (congrArg Prod.fst h2) h1)
  · refine (append_zero_at (cs := []) (rw := true) dp35 rfl (first_at (cs := R) (rw := true) (by kernel_rfl) (?_ : takeL R 0 ((A.length + D.length + 1) * 4) = some ((A ++ x :: D).flatMap enc4))) (by kernel_rfl) (by omega) hn1 (by omega)).trans (by kernel_rfl)
    rw [← hfl]; exact hR.at_
  · have he : ∀ z z' : Int, aBin ED .eql 3 (.tmp 14) (.tmp 15) (.int .i64 z) (.int .i64 z') = some (.bool (eqF z z')) := fun z z' => by kernel_rfl
    have hne : eqF (Int.ofNat A.length) (.ofNat (A.length + 1)) = false := by
      cases h : eqF (Int.ofNat A.length) (.ofNat (A.length + 1)) with
      | false => rfl
      | true =>
        exact absurd (Int.ofNat.inj (eqF_t h)) (by omega)
    rw [e1, he, hne]; rfl
  · rw [← hN]; kernel_rfl
  rintro F' S' h
  cases h
  have hlen2 : (A ++ D).length = A.length + D.length := List.length_append
  have hs : StP [0, 1, 4, 20] (vcXa_s6 (A.length + D.length) m (.cells R true) (rowZ (A ++ D) zero4)) [(0, tob (slK (A ++ D).length)), (1, .dead), (2, rowZ (A ++ D) zero4), (3, .dead)] := by
    rw [hlen2]
    exact .cons 0 _ rfl (by kernel_rfl : _ = some (tob (.slice (some (4, 0)) (A.length + D.length) (.rest 4)))) (.of rfl) (.dead (j := 1) (by show 1 < 4; decide) (.came ((rowZ_R zero4_refs).came true) rfl (by kernel_rfl) (.dead (j := 3) (by show 3 < 4; decide) .nil)))
  have hf : frE [0, 1, 4, 20] (xFr [(0, p0), (1, .int .u64 m), (4, nilA), (5, .int .i64 (.ofNat 0)), (6, nI A.length)] 68) [0, 1, 4, 5] = some [(0, p0), (1, .int .u64 m), (4, nilA), (5, .int .i64 (.ofNat 0))] := by kernel_rfl
  refine Trip.less (Wk.heldX (kb := 2) [0, 1, 4, 20] (by kernel_rfl) (by kernel_rfl) [0, 1, 4, 5] hf hs) ?_
  rw [shape13]
  refine Trip.seq (R := Stops 2 .normal (fr13 (Vr 3 (promP (A ++ D)).2) (A ++ D).length (A ++ D).length) (S4 (A ++ D).length (rowZ (promP (A ++ D)).1 zero4) (Bn (promP (A ++ D)).2))) (Trip.seq (R := Stops 2 .normal (fr13 nilA (A ++ D).length 0) (S4 (A ++ D).length (rowZ (A ++ D) zero4) .dead))
    ((Trip.runY EDok noSum_ok (Eq.mp (vcXi (A ++ D).length m (rowZ (A ++ D) zero4) (Stops 2 .normal (fr13 nilA (A ++ D).length 0) (S4 (A ++ D).length (rowZ (A ++ D) zero4) .dead))) ⟨rfl, Wk.refl _ _ _⟩)).mono fun q hq => Stops.can hq) (fun fr' st' hq => Trip.less hq.2 (loopX (by omega))) (fun e fr' st' hne hq => absurd hq.1 hne)) (fun fr' st' hq => ?_) (fun e fr' st' hne hq => absurd hq.1 hne)
  exact Trip.less hq.2 (Trip.runY EDok noSum_ok (Eq.mp (vcXz (Vr 3 (promP (A ++ D)).2) (A ++ D).length (S4 (A ++ D).length (rowZ (promP (A ++ D)).1 zero4) (Bn (promP (A ++ D)).2)) (fun v => v = doneV (A ++ D))) ⟨.inr rfl, _, rfl, rfl⟩))
theorem doneRun (hl : (A ++ x :: D).length < 549755813888) (hR : RowR R (A ++ x :: D)) (hi : idxV (findP m) (A ++ x :: D) = .ofNat A.length) (B : Prot) (w0 : World) (ι : Ren) (W : World) (args' : Array Value) (hB : ∀ i, ¬ B.rs i) (hsr : SR B w0 ι (mkSt [(0, tob (slT (A ++ x :: D).length)), (1, .cells R true)] 2) W) (hv : VRs ι [p0, .int .u64 m] args') :
    (callFunc 13 args').run Try.prog W = .ok (.enter 13 args') W ∧ CallsIn Fence.wide 0 Try.prog 13 args' W fun e w' => ∃ v, v = doneV (A ++ D) ∧ Post B w0 ι v e w' :=
  Trip.call EDok (fn := Try.f13) (by kernel_rfl) (by kernel_rfl : Try.f13.body = some c13) (by kernel_rfl) (bodyX hl hR hi) B hB w0 ι W args' hsr hv
end
end Go.Proofs.Ytelehjeifhelnaa.ovp
end

section
namespace Go.Ax
open Go.RowKit
set_option linter.unusedVariables false
theorem Trip.cond {P : Program} {kb : Nat} {ro : Option Nat} {fr : AFr} {st : ASt} {Q : Exit × AFr × ASt → Prop} {x : Operand} {t e : Code} {b : Bool} (hx : evA fr x = some (.bool b)) (h : Trip P kb ro (bif b then t else e) fr st Q) : Trip P kb ro (.cond x t e) fr st Q := fun B w0 κ hb ι w a rl hk h1 h2 h3 => by
  have hxv := evA_ok h2.hf hx
  generalize hxe : a.eval x = xv at hxv
  cases hxv
  refine wpIn_cond hxe ?_
  have := h B w0 κ hb ι w a rl hk h1 h2 h3
  cases b
  · exact this
  · exact this
def okMask (nx : Nat) : List Nat → List Nat → Bool
  | [], [] => true
  | i :: is, m :: ms => bif Nat.beq i m then okMask nx is ms else bif Nat.ble nx m then okMask nx is ms else false
  | _, _ => false
theorem okMask_at {nx : Nat} : ∀ {ids mids : List Nat}, okMask nx ids mids = true → mids.length = ids.length ∧ ∀ (j m : Nat), mids[j]? = some m → m < nx → ids[j]? = some m
  | [], [], _ => ⟨rfl, fun j m h => by simp at h⟩
  | i :: is, m :: ms, h => by
    unfold okMask at h
    cases e : Nat.beq i m with
    | true =>
      rw [e, cond_true] at h
      obtain ⟨h1, h2⟩ := okMask_at h
      refine ⟨by simp [h1], fun j x hj hx => ?_⟩
      cases j with
      | zero => simp at hj; subst hj; rw [Nat.eq_of_beq_eq_true e]; rfl
      | succ j => simpa using h2 j x (by simpa using hj) hx
    | false =>
      rw [e, cond_false] at h
      cases e2 : Nat.ble nx m with
      | false => rw [e2] at h; cases h
      | true =>
        rw [e2, cond_true] at h
        obtain ⟨h1, h2⟩ := okMask_at h
        refine ⟨by simp [h1], fun j x hj hx => ?_⟩
        cases j with
        | zero => simp at hj; subst hj; have := Nat.le_of_ble_eq_true e2; omega
        | succ j => simpa using h2 j x (by simpa using hj) hx
  | [], _ :: _, h => by cases h
  | _ :: _, [], h => by cases h
theorem Wk.heldM {kb n : Nat} {l0 : List (Nat × AV)} (ids mids : List Nat) (hp : preB kb 0 ids = true) {st : ASt} (hm : okMask st.next ids mids = true) (hn : noDup mids = true) (ks : List Nat) {lf : List (Nat × AV)} {ls : List (Nat × AO)}
    (hf : frE mids (xFr l0 n) ks = some lf) (hs : StP mids st ls) : Wk kb (xFr l0 n) st (xFr lf n) (mkSt ls mids.length) := fun B w0 κ hb ι w a hk h1 h2 => by
  obtain ⟨hlen, hmask⟩ := okMask_at hm
  have hle : (renR mids ι).le (renR ids ι) := fun j L hL => by
    unfold renR at hL ⊢
    cases hi : mids[j]? with
    | none => rw [hi] at hL; cases hL
    | some m =>
      rw [hi] at hL
      rw [hmask j m hi (h1.dom m L hL)]
      exact hL
  have hall : ∀ {j a}, (mkSt ls mids.length).h.get j = some a → j < mids.length ∧ (a ≠ .dead → ∃ i x, mids[j]? = some i ∧ st.h.get i = some x ∧ RenO mids x a) := fun {j a} hj => by
    rcases foldl_get D ls .e j a hj with ⟨p, p1, p2, p3⟩ | h
    · subst p2; subst p3; exact hs.ok p p1
    · rw [T.get_e] at h; cases h
  have hget : ∀ {j a}, (mkSt ls mids.length).h.get j = some a → a ≠ .dead → ∃ i x, mids[j]? = some i ∧ st.h.get i = some x ∧ RenO mids x a := fun hj hd => (hall hj).2 hd
  have live : ∀ {a : AO}, a.own = true → a ≠ .dead := fun ha e => by subst e; simp [AO.own] at ha
  have hren : ∀ {j L}, renR ids ι j = some L → ∃ i, ids[j]? = some i ∧ ι i = some L := fun {j L} h => by
    unfold renR at h
    cases hi : ids[j]? with
    | none => rw [hi] at h; cases h
    | some i => rw [hi] at h; exact ⟨i, rfl, h⟩
  refine ⟨renR ids ι, fun i L hi => by
    have h3 := preB_ok hp (hb.dom i L hi)
    rw [Nat.zero_add] at h3
    simp only [renR, h3]
    exact hk i L hi, ?_, ⟨⟨h2.hf.1, fun t => ?_⟩, ?_⟩⟩
  · have lt : ∀ {i : Nat} {x : AO}, st.h.get i = some x → i < st.next := fun {i x} hi => h1.hdom i x hi
    refine ⟨h1.below, h1.base, fun j a hj hd => ?_, fun j a L hj ho hL => ?_, fun j L hL => ?_, fun j a hj => ?_, fun j a L hj hd ho hL => ?_, fun i hi => absurd hi (hb.rs i), h1.glob⟩
    · obtain ⟨i, x, g1, g2, hx, _, g3⟩ := hget hj hd
      obtain ⟨L, o, k1, k2, k3⟩ := h1.obj i x g2 hx
      have g1' := hmask j i g1 (lt g2)
      exact ⟨L, o, by simp only [renR, g1', k1], k2, (g3 _ _ _ k3).mono hle⟩
    · obtain ⟨i, x, g1, g2, hx, hox, g3⟩ := hget hj (live ho)
      obtain ⟨i', g1', hL'⟩ := hren hL
      rw [hmask j i g1 (lt g2)] at g1'; cases g1'
      obtain ⟨m1, m2⟩ := h1.own i x L g2 (by rw [← hox]; exact ho) hL'
      refine ⟨m1, fun j' a' L' hj' hd' hL'' hbb => ?_⟩
      obtain ⟨i2, x2, p1, p2, hx2, _⟩ := hget hj' hd'
      obtain ⟨i2', p1', hL2⟩ := hren hL''
      rw [hmask j' i2 p1 (lt p2)] at p1'; cases p1'
      have := m2 i2 x2 L' p2 hx2 hL2 hbb
      subst this
      exact noDup_ok hn p1 g1
    · obtain ⟨i, g1, _⟩ := hren hL
      show j < mids.length
      rw [hlen]
      exact (List.getElem?_eq_some_iff.1 g1).1
    · exact (hall hj).1
    · obtain ⟨i, x, g1, g2, hx, hox, g3⟩ := hget hj hd
      obtain ⟨i', g1', hL'⟩ := hren hL
      rw [hmask j i g1 (lt g2)] at g1'; cases g1'
      exact h1.ro i x L g2 hx (by rw [← hox]; exact ho) hL'
  · show VR _ (((xFr lf n).m.get t).getD undefA) _
    rw [xFr_get]
    by_cases ht : t < n
    · simp only [ht, if_true]
      rcases lkp_mem (l := lf) (t := t) with e | ⟨p, p1, p2, p3⟩
      · rw [e]; exact .any _
      · have := frE_ok hf p p1
        rw [p2, p3] at this
        exact ((h2.hf.2 t).ren _ this).mono hle
    · simp only [ht, if_false]
      have : a.tmps.getD t undef = undef := by
        have h3 := h2.hf.1
        have h4 : (xFr l0 n).n = n := rfl
        rw [h4] at h3
        simp [Array.getD]; omega
      rw [this]; exact .undef _
  · exact DR.ren (ids := ids) hp (allLt_ok (l := []) rfl) h2.hd
def srcK (k m : Nat) : Src := (List.range m).map fun j => bif Nat.blt j k then some (j, 0, true) else none
def gK (k n : Nat) (j : Nat) : Nat := bif Nat.blt j k then j else n + j
theorem srcK_at {k m j : Nat} (hm : j < m) (hk : j < k) : (srcK k m)[j]? = some (some (j, 0, true)) := by
  unfold srcK
  have hb : Nat.blt j k = true := by rw [Nat.blt_eq]; exact hk
  rw [List.getElem?_map, List.getElem?_range hm]
  simp [hb]
theorem srcK_some {k m j i o : Nat} {w : Bool} (h : (srcK k m)[j]? = some (some (i, o, w))) : j < m ∧ j < k ∧ i = j ∧ o = 0 ∧ w = true := by
  unfold srcK at h
  rw [List.getElem?_map] at h
  cases e : (List.range m)[j]? with
  | none => rw [e] at h; cases h
  | some x =>
    have h1 := List.getElem?_eq_some_iff.1 e
    obtain ⟨h2, h3⟩ := h1
    rw [List.length_range] at h2
    rw [List.getElem_range] at h3
    subst h3
    rw [e] at h
    cases hb : Nat.blt j k with
    | false => simp [hb] at h
    | true =>
      simp [hb] at h
      rw [Nat.blt_eq] at hb
      exact ⟨h2, hb, h.1.symm, h.2.1.symm, h.2.2⟩
theorem gS_srcK {k m n : Nat} (hkm : k ≤ m) : gS (srcK k m) n = gK k n := by
  funext j
  unfold gK
  cases hb : Nat.blt j k with
  | true =>
    have hk : j < k := by rw [Nat.blt_eq] at hb; exact hb
    simp [gS, srcK_at (show j < m by omega) hk]
  | false =>
    unfold gS
    split
    · rename_i i o hs
      obtain ⟨_, h2, _⟩ := srcK_some hs
      have : Nat.blt j k = true := by rw [Nat.blt_eq]; exact h2
      rw [this] at hb; cases hb
    · rfl
theorem renS_srcK {k m j : Nat} {ι : Ren} (hm : j < m) (hk : j < k) : renS (srcK k m) ι j = ι j := by
  unfold renS
  rw [srcK_at hm hk]
  show (match ι j with | some L => some (L.sh 0) | none => none) = ι j
  cases ι j <;> rfl
theorem renK_le {k m : Nat} {ι : Ren} (hkm : k ≤ m) : (renR (List.range k) ι).le (renS (srcK k m) ι) := fun j L hL => by
  unfold renR at hL
  cases e : (List.range k)[j]? with
  | none => rw [e] at hL; cases hL
  | some x =>
    obtain ⟨h2, h3⟩ := List.getElem?_eq_some_iff.1 e
    rw [List.length_range] at h2
    rw [List.getElem_range] at h3
    subst h3
    rw [e] at hL
    rw [renS_srcK (by omega) h2]; exact hL
theorem Call1.same {P : Program} {f : Nat} {args : List AV} {S S1 : ASt} {Q1 : AV × ASt → Prop} (k m : Nat) (hkm : k ≤ m)
    (hrun : ∀ B w0 ι w args', (∀ i, ¬ B.rs i) → SR B w0 ι S1 w → VRs ι args args' → (callFunc f args').run P w = .ok (.enter f args') w ∧ CallsIn Fence.wide 0 P f args' w fun e w' => ∃ v, Q1 v ∧ Post B w0 ι v e w')
    (hn : S1.next = m) (hlive : ∀ j, j < k → ∃ a, S.h.get j = some a ∧ a ≠ .dead)
    (hobj : ∀ j x, S1.h.get j = some x → j < m ∧ (x ≠ .dead → j < k ∧ S.h.get j = some x ∧ RenO (List.range k) x x))
    (hargs : ∀ v, v ∈ args → renV (List.range k) v = some v)
    {outs : List (Nat × AO)} {n : Nat} {v : AV} (hback : ∀ q, Q1 q → BackV (gK k S.next) q.1 v ∧ S.next + q.2.next ≤ n ∧ S.next + m ≤ n ∧
      (∀ p, p ∈ outs → gK k S.next p.1 < n ∧ (p.1 < k ∨ m ≤ p.1) ∧ (p.1 < k → ∃ x, S1.h.get p.1 = some x ∧ x.own = true) ∧ (p.2 = .dead ∨ p.2.own = true ∧ ∃ a, q.2.h.get p.1 = some a ∧ BackO (gK k S.next) a p.2)) ∧
      ∀ j x, S1.h.get j = some x → x.own = true → ∃ p, p ∈ outs ∧ p.1 = j) : Call1 P f args S (v, outS (gK k S.next) outs S n) := by
  have hl : (srcK k m).length = m := by unfold srcK; rw [List.length_map, List.length_range]
  rw [← gS_srcK hkm]
  refine Call1.frame (S1 := S1) (args1 := args) hrun (src := srcK k m) ⟨hn.trans hl.symm, fun j i o w h => ?_, fun j x hj => ?_, fun j x hj hd => ?_, fun j j' x i o w o' w' hj ho hs hs' => ?_⟩ (fun ι args' hv => ⟨hv.size, fun i y y' hy hy' => ?_⟩) fun q hq => ?_
  · obtain ⟨h1, h2, rfl, rfl, rfl⟩ := srcK_some h
    exact ⟨fun _ => rfl, hlive _ h2⟩
  · rw [hl]; exact (hobj j x hj).1
  · obtain ⟨h1, h2⟩ := hobj j x hj
    obtain ⟨h3, h4, h5⟩ := h2 hd
    exact ⟨j, 0, true, x, srcK_at h1 h3, h4, hd, fun h => ⟨h, rfl⟩, fun ι L ob ho => (h5.2.2 ι L ob ho).mono (renK_le hkm)⟩
  · obtain ⟨_, _, rfl, _⟩ := srcK_some hs
    obtain ⟨_, _, h, _⟩ := srcK_some hs'
    exact h.symm
  · have h1 := hargs y (List.mem_of_getElem? hy)
    exact ((hv.at_ i y y' hy hy').ren _ h1).mono (renK_le hkm)
  · obtain ⟨b1, b2, b3, b4, b5⟩ := hback q hq
    refine ⟨by rw [gS_srcK hkm]; exact b1, ⟨b2, by rw [hl]; exact b3⟩, fun p hp => ?_, b5⟩
    obtain ⟨c1, c2, c3, c4⟩ := b4 p hp
    rw [gS_srcK hkm]
    refine ⟨c1, fun h => c3 ?_, c4⟩
    rw [hl] at h
    rcases c2 with c2 | c2
    · exact c2
    · omega
theorem Trip.weak {P : Program} {kb : Nat} {ro : Option Nat} {fr : AFr} {st : ASt} {c : Code} {Q R : Exit × AFr × ASt → Prop} (h : Trip P kb ro c fr st Q) (hw : ∀ r, Q r → ∃ F S, Wk kb r.2.1 r.2.2 F S ∧ R (r.1, F, S)) : Trip P kb ro c fr st R := fun B w0 κ hb ι w a rl hk h1 h2 h3 =>
  wpIn_mono (h B w0 κ hb ι w a rl hk h1 h2 h3) fun e a' w' ⟨r, hq, he, ι', g1, g2, g3⟩ => by
    obtain ⟨F, S, h4, h5⟩ := hw r hq
    obtain ⟨ι2, k1, k2, k3⟩ := h4 B w0 κ hb ι' w' a' g1 g2 g3
    exact ⟨_, h5, he, ι2, k1, k2, k3⟩
end Go.Ax
end
