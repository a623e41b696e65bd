/-
  OWN WORK, A PART: an abstract machine for the program's text that the kernel can run, and the proof that it is sound: what it answers is what the program answers; contracts of functions by it. No condition.
-/
import Derived.Test.YtelehjeifhelnaaWbC
section
open Go Go.Ax Go.Proofs
namespace Go.Proofs.Ytelehjeifhelnaa.ovp
set_option linter.unusedVariables false
def fstO (x : Option (AV × ASt)) : Option AV := match x with | some (v, _) => some v | none => none
noncomputable def EO : Env := envEx Try.prog [0, 3, 4, 5, 22, 24, 27, 30, 32, 39, 40, 42, 43, 77] [(9, Try.f9)] []
noncomputable def smO (q : CallT) : CallT := onlyC [12, 13, 14, 37, 38, 39] q
noncomputable def c9 : Code := Option.getD Try.f9.body .skip
def actV (kd m b : Int) (w : Bool) : AV := .agg [.int .i64 kd, .int .u64 m, .int .i64 b, .bool w]
noncomputable def fr9a (V : AV) (kd m b : Int) (w : Bool) : AFr := { m := putArgs [p0, V, actV kd m b w] 0 .e, n := 183, defs := [] }
noncomputable def S9 (T R W : AO) : ASt := mkSt [(0, T), (1, R), (2, W)] 3
def slW (k n : Nat) : AV := .slice (some (k, 0)) n (.rest 4)
-- the switch and its parts
def condT : Code → Code
  | .cond _ t _ => t
  | c => c
def condE : Code → Code
  | .cond _ _ e => e
  | c => c
noncomputable def X9 : Code := blkB (seqR (seqL (dropC 1 c9)))
noncomputable def Y9 : Code := condE (seqR X9)
noncomputable def K2 : Code := condT (seqR Y9)
noncomputable def Z9 : Code := condE (seqR Y9)
noncomputable def K3 : Code := condT (seqR Z9)
-- others
noncomputable def tO0 (q : CallT) (V : AV) (kd m b z : Int) (w : Bool) (T R W : AO) : Tr (Exit × AFr × ASt) := (TM EO (smO q) [] fl0 60).ex ⟨[22, 26, 97, 162], [], [], []⟩ none c9 (fr9a V kd m b w) (S9 T R W)
-- Come: refused
noncomputable def tO1 (q : CallT) (V : AV) (m b z : Int) (w : Bool) (T R W T1 R1 : AO) : Tr (Exit × AFr × ASt) := (TM EO (smO q) [] fl0 60).ex ⟨[22, 35, 40], [], [], []⟩ none c9 (fr9a V 1 m b w) (S9 T R W)
noncomputable def tO2 (q : CallT) (V : AV) (m b z : Int) (w : Bool) (T R W T1 R1 : AO) : Tr (Exit × AFr × ASt) := (TM EO (smO q) [] fl0 60).ex ⟨[22, 35, 40, 49], [], [], []⟩ none c9 (fr9a V 1 m b w) (S9 T R W)
-- Come: taken; a list that has some, one that has none
noncomputable def tO3 (q : CallT) (n : Nat) (m b z : Int) (w y : Bool) (T R W T1 R1 N1 W1 W2 W3 : AO) : Tr (Exit × AFr × ASt) := (TM EO (smO q) [] fl0 60).ex ⟨[22, 35, 40, 49, 62, 70, 73, 74, 77, 78, 79, 80, 89, 90, 91, 93, 94, 4095], [], [60], []⟩ none c9 (fr9a (slW 2 n) 1 m b w) (S9 T R W)
noncomputable def tO4 (q : CallT) (m b z : Int) (w y : Bool) (T R T1 R1 N1 W2 W3 : AO) : Tr (Exit × AFr × ASt) := (TM EO (smO q) [] fl0 60).ex ⟨[22, 35, 40, 49, 62, 70, 79, 80, 91, 93, 94, 4095], [], [60], []⟩ none c9 (fr9a nilA 1 m b w) (S9 T R .dead)
-- Done: none
noncomputable def tO5 (q : CallT) (V : AV) (m b z : Int) (w : Bool) (T R W T1 R1 : AO) : Tr (Exit × AFr × ASt) := (TM EO (smO q) [] fl0 60).ex ⟨[22, 102, 106], [], [], []⟩ none c9 (fr9a V 2 m b w) (S9 T R W)
-- from here on in pieces
noncomputable def tPa (q : CallT) (V : AV) (kd m b z : Int) (w : Bool) (T R W : AO) : Tr (Exit × AFr × ASt) := (TM EO (smO q) [] fl0 60).ex ⟨[22], [], [], []⟩ none (preC 1 c9) (fr9a V kd m b w) (S9 T R W)
noncomputable def fr9b (V : AV) (z : Int) : AFr := xFr [(0, p0), (1, V), (5, .ptr (some (3, 0))), (8, .int .i64 z)] 183
noncomputable def S9b (kd m b : Int) (w : Bool) (T R W : AO) : ASt := mkSt [(0, T), (1, R), (2, W), (3, .cells [.int .i64 kd, .int .u64 m, .int .i64 b, .bool w] true)] 4
noncomputable def tKa (q : CallT) (V Vo : AV) (kd m b z : Int) (w : Bool) (T R W T1 R1 N O : AO) : Tr (Exit × AFr × ASt) := (TM EO (smO q) [] fl0 60).ex ⟨[102, 106], [], [], []⟩ none (preC 1 K2) (fr9b V z) (S9b kd m b w T R W)
noncomputable def fr9c (V Vo : AV) (i : Nat) : AFr := xFr [(1, V), (8, nI i), (12, Vo), (13, .int .i64 (.ofNat 0))] 183
noncomputable def S9c (T R W N O : AO) : ASt := mkSt [(0, T), (1, R), (2, W), (3, N), (4, O)] 5
noncomputable def tKb1 (Vo : AV) (T R W N O : AO) : Tr (Exit × AFr × ASt) := (TM EO noSum [] fl0 60).ex ⟨[117, 118, 122, 123], [], [], []⟩ none (preC 0 (dropC 1 K2)) (fr9c (slW 2 1) Vo 0) (S9c T R W N O)
noncomputable def tKb2 (Vo : AV) (d : Nat) (T R W N O W1 : AO) : Tr (Exit × AFr × ASt) := (TM EO noSum [] fl0 60).ex ⟨[117, 118, 122, 123], [], [], []⟩ none (preC 0 (dropC 1 K2)) (fr9c (slW 2 (d + 1)) Vo 0) (S9c T R W N O)
noncomputable def tKb3 (Vo : AV) (a : Nat) (T R W N O W1 : AO) : Tr (Exit × AFr × ASt) := (TM EO noSum [] fl0 60).ex ⟨[117, 118, 122, 123], [], [], []⟩ none (preC 0 (dropC 1 K2)) (fr9c (slW 2 (a + 1)) Vo a) (S9c T R W N O)
noncomputable def tKb4 (Vo : AV) (a d : Nat) (T R W N O W1 W2 : AO) : Tr (Exit × AFr × ASt) := (TM EO noSum [] fl0 60).ex ⟨[117, 118, 122, 123], [], [], []⟩ none (preC 0 (dropC 1 K2)) (fr9c (slW 2 (a + d + 1)) Vo a) (S9c T R W N O)
-- none is left
noncomputable def S9d (T N O W1 J : AO) : ASt := mkSt [(0, T), (1, .dead), (2, .dead), (3, N), (4, O), (5, W1), (6, J)] 7
noncomputable def tKe (q : CallT) (Vo : AV) (T N O : AO) : Tr (Exit × AFr × ASt) := (TM EO (smO q) [] fl0 60).ex ⟨[159], [], [], []⟩ none (dropC 1 (dropC 0 K2)) (xFr [(1, nilA), (12, Vo), (13, .int .i64 (.ofNat 0))] 183) (S9d T N O .dead .dead)
noncomputable def LK2 : Code := lopB (blkB (seqR (seqL (dropC 3 K2))))
noncomputable def fr9d (Vo Vq : AV) (n i : Nat) : AFr := xFr [(1, slW 5 n), (12, Vo), (13, .int .i64 (.ofNat 0)), (14, Vq), (15, nI i)] 183
noncomputable def tKi (Vo : AV) (n : Nat) (T N O W1 : AO) : Tr (Exit × AFr × ASt) := (TM EO noSum [] fl0 60).ex fl0 none (seqL (seqL (dropC 3 K2))) (xFr [(1, slW 5 n), (12, Vo), (13, .int .i64 (.ofNat 0)), (14, nilA)] 183) (S9d T N O W1 .dead)
noncomputable def tKr (q : CallT) (Vo Vq : AV) (n i : Nat) (T N O W1 J : AO) : Tr (Exit × AFr × ASt) := (TM EO (smO q) [] fl0 60).ex ⟨[132, 134], [], [127], []⟩ none LK2 (fr9d Vo Vq n i) (S9d T N O W1 J)
noncomputable def tKs (q : CallT) (Vo Vq : AV) (n i : Nat) (T N O W1 J : AO) : Tr (Exit × AFr × ASt) := (TM EO (smO q) [] fl0 60).ex ⟨[132, 134, 139], [], [127], []⟩ none LK2 (fr9d Vo Vq n i) (S9d T N O W1 J)
noncomputable def tKt (q : CallT) (Vo Vq : AV) (n i k : Nat) (a : Int) (T N O W1 W2 J Q1 : AO) : Tr (Exit × AFr × ASt) := (TM EO (smO q) [] fl0 60).ex ⟨[132, 134, 139, 143, 4095, 148, 150, 152], [], [127], []⟩ none LK2 (fr9d Vo Vq n i) (S9d T N O W1 J)
noncomputable def tKz (q : CallT) (Vo Vq : AV) (n : Nat) (T N O W1 J : AO) : Tr (Exit × AFr × ASt) := (TM EO (smO q) [] fl0 60).ex ⟨[159], [], [], []⟩ none (dropC 4 K2) (fr9d Vo Vq n n) (S9d T N O W1 J)
-- Clear
noncomputable def tCe (q : CallT) (V : AV) (m b z : Int) (w : Bool) (T R T1 R1 : AO) : Tr (Exit × AFr × ASt) := (TM EO (smO q) [] fl0 60).ex ⟨[22, 164, 181], [], [], []⟩ none c9 (fr9a nilA 3 m b w) (S9 T R .dead)
noncomputable def tCa (q : CallT) (V Vo : AV) (kd m b z : Int) (w : Bool) (T R W T1 R1 O : AO) : Tr (Exit × AFr × ASt) := (TM EO (smO q) [] fl0 60).ex ⟨[164], [], [], []⟩ none (preC 1 K3) (fr9b V z) (S9b kd m b w T R W)
noncomputable def S9e (T W O J : AO) : ASt := mkSt [(0, T), (1, .dead), (2, W), (3, O), (4, J)] 5
noncomputable def LK3 : Code := lopB (blkB (seqR (seqL (dropC 1 K3))))
noncomputable def fr9e (Vo Vq : AV) (n i : Nat) : AFr := xFr [(1, slW 2 n), (16, Vo), (17, Vq), (18, nI i)] 183
noncomputable def tCi (Vo : AV) (n : Nat) (T W O : AO) : Tr (Exit × AFr × ASt) := (TM EO noSum [] fl0 60).ex fl0 none (seqL (seqL (dropC 1 K3))) (xFr [(1, slW 2 n), (16, Vo), (17, nilA)] 183) (S9e T W O .dead)
noncomputable def tCr (Vo Vq : AV) (n i k : Nat) (a : Int) (T W O J Q1 : AO) : Tr (Exit × AFr × ASt) := (TM EO noSum [] fl0 60).ex ⟨[174, 176, 178], [], [168], []⟩ none LK3 (fr9e Vo Vq n i) (S9e T W O J)
noncomputable def tCz (q : CallT) (Vo Vq : AV) (n : Nat) (T W O J : AO) : Tr (Exit × AFr × ASt) := (TM EO (smO q) [] fl0 60).ex ⟨[181], [], [], []⟩ none (dropC 2 K3) (fr9e Vo Vq n n) (S9e T W O J)
noncomputable def vcO0_s0 (kd : Int) (m : Int) (b : Int) (w : Bool) (T : AO) (R : AO) (W : AO) : ASt := mkSt [(0, T), (1, R), (2, W), (3, .cells [.int .i64 kd, .int .u64 m, .int .i64 b, .bool w] true)] 4
theorem vcO0 (q : CallT) (V : AV) (kd : Int) (m : Int) (b : Int) (z : Int) (w : Bool) (T : AO) (R : AO) (W : AO) (Q : Exit × AFr × ASt → Prop) :
  ((M EO (drawA EO) (smO q) 57).call 37 [V, .int .u64 m] (vcO0_s0 kd m b w T R W) = some (.int .i64 z, vcO0_s0 kd m b w T R W) ∧ still (vcO0_s0 kd m b w T R W) (aBin EO .eql 3 (.tmp 24) (.const (.int .i64 1)) (.int .i64 kd) (.int .i64 (.ofNat 1))) = some (.bool false, vcO0_s0 kd m b w T R W) ∧ still (vcO0_s0 kd m b w T R W) (aBin EO .eql 3 (.tmp 24) (.const (.int .i64 2)) (.int .i64 kd) (.int .i64 (.ofNat 2))) = some (.bool false, vcO0_s0 kd m b w T R W) ∧ still (vcO0_s0 kd m b w T R W) (aBin EO .eql 3 (.tmp 24) (.const (.int .i64 3)) (.int .i64 kd) (.int .i64 (.ofNat 3))) = some (.bool false, vcO0_s0 kd m b w T R W) ∧ Q (.ret, xFr [(6, V), (7, .bool true)] 183, vcO0_s0 kd m b w T R W)) =
  (tO0 q V kd m b z w T R W).allY (fun r => Q (canR [6, 7] [0, 1, 2, 3, 4, 5, 6, 7, 8, 9, 10, 11, 12, 13, 14, 15, 16, 17, 18, 19, 20, 21, 22, 23, 24, 25, 26, 27, 28, 29, 30, 31, 32, 33, 34, 35, 36, 37, 38, 39, 40, 41, 42, 43, 44, 45, 46, 47, 48, 49, 50, 51, 52, 53, 54, 55, 56, 57, 58, 59, 60, 61, 62, 63, 64, 65, 66, 67, 68, 69, 70, 71, 72, 73, 74, 75, 76, 77, 78, 79, 80, 81, 82, 83, 84, 85, 86, 87, 88, 89, 90, 91, 92, 93, 94, 95, 96, 97, 98, 99] r)) (.v (.int .i64 z, vcO0_s0 kd m b w T R W) (.v (.bool false, vcO0_s0 kd m b w T R W) (.v (.bool false, vcO0_s0 kd m b w T R W) (.v (.bool false, vcO0_s0 kd m b w T R W) .nil)))) := by kernel_rfl
noncomputable def vcO1_s0 (m : Int) (b : Int) (w : Bool) (T : AO) (R : AO) (W : AO) : ASt := mkSt [(0, T), (1, R), (2, W), (3, .cells [.int .i64 (.ofNat 1), .int .u64 m, .int .i64 b, .bool w] true)] 4
noncomputable def vcO1_s1 (m : Int) (b : Int) (w : Bool) (W : AO) (T1 : AO) (R1 : AO) : ASt := mkSt [(0, T1), (1, R1), (2, W), (3, .cells [.int .i64 (.ofNat 1), .int .u64 m, .int .i64 b, .bool w] true)] 44
theorem vcO1 (q : CallT) (V : AV) (m : Int) (b : Int) (z : Int) (w : Bool) (T : AO) (R : AO) (W : AO) (T1 : AO) (R1 : AO) (Q : Exit × AFr × ASt → Prop) :
  ((M EO (drawA EO) (smO q) 57).call 37 [V, .int .u64 m] (vcO1_s0 m b w T R W) = some (.int .i64 z, vcO1_s0 m b w T R W) ∧ (M EO (drawA EO) (smO q) 51).call 12 [.ptr (some (0, 0)), .int .u64 m, .int .i64 b, .bool w] (vcO1_s0 m b w T R W) = some (.tuple [.bool false, .int .i64 (.ofNat 2)], vcO1_s1 m b w W T1 R1) ∧ still (vcO1_s1 m b w W T1 R1) (aBin EO .gtr 3 (.tmp 39) (.const (.int .i64 63)) (.int .i64 b) (.int .i64 (.ofNat 63))) = some (.bool true, vcO1_s1 m b w W T1 R1) ∧ Q (.ret, xFr [(6, V), (7, .bool true)] 183, vcO1_s1 m b w W T1 R1)) =
  (tO1 q V m b z w T R W T1 R1).allY (fun r => Q (canR [6, 7] [0, 1, 2, 3, 4, 5, 6, 7, 8, 9, 10, 11, 12, 13, 14, 15, 16, 17, 18, 19, 20, 21, 22, 23, 24, 25, 26, 27, 28, 29, 30, 31, 32, 33, 34, 35, 36, 37, 38, 39, 40, 41, 42, 43, 44, 45, 46, 47, 48, 49, 50, 51, 52, 53, 54, 55, 56, 57, 58, 59, 60, 61, 62, 63, 64, 65, 66, 67, 68, 69, 70, 71, 72, 73, 74, 75, 76, 77, 78, 79, 80, 81, 82, 83, 84, 85, 86, 87, 88, 89, 90, 91, 92, 93, 94, 95, 96, 97, 98, 99] r)) (.v (.int .i64 z, vcO1_s0 m b w T R W) (.v (.tuple [.bool false, .int .i64 (.ofNat 2)], vcO1_s1 m b w W T1 R1) (.v (.bool true, vcO1_s1 m b w W T1 R1) .nil))) := by kernel_rfl
noncomputable def vcO2_s0 (m : Int) (b : Int) (w : Bool) (T : AO) (R : AO) (W : AO) : ASt := mkSt [(0, T), (1, R), (2, W), (3, .cells [.int .i64 (.ofNat 1), .int .u64 m, .int .i64 b, .bool w] true)] 4
noncomputable def vcO2_s1 (m : Int) (b : Int) (w : Bool) (W : AO) (T1 : AO) (R1 : AO) : ASt := mkSt [(0, T1), (1, R1), (2, W), (3, .cells [.int .i64 (.ofNat 1), .int .u64 m, .int .i64 b, .bool w] true)] 44
theorem vcO2 (q : CallT) (V : AV) (m : Int) (b : Int) (z : Int) (w : Bool) (T : AO) (R : AO) (W : AO) (T1 : AO) (R1 : AO) (Q : Exit × AFr × ASt → Prop) :
  ((M EO (drawA EO) (smO q) 57).call 37 [V, .int .u64 m] (vcO2_s0 m b w T R W) = some (.int .i64 z, vcO2_s0 m b w T R W) ∧ (M EO (drawA EO) (smO q) 51).call 12 [.ptr (some (0, 0)), .int .u64 m, .int .i64 b, .bool w] (vcO2_s0 m b w T R W) = some (.tuple [.bool false, .int .i64 (.ofNat 7)], vcO2_s1 m b w W T1 R1) ∧ still (vcO2_s1 m b w W T1 R1) (aBin EO .gtr 3 (.tmp 39) (.const (.int .i64 63)) (.int .i64 b) (.int .i64 (.ofNat 63))) = some (.bool false, vcO2_s1 m b w W T1 R1) ∧ still (vcO2_s1 m b w W T1 R1) (aBin EO .geq 3 (.tmp 48) (.const (.int .i64 0)) (.int .i64 z) (.int .i64 (.ofNat 0))) = some (.bool true, vcO2_s1 m b w W T1 R1) ∧ Q (.ret, xFr [(6, V), (7, .bool true)] 183, vcO2_s1 m b w W T1 R1)) =
  (tO2 q V m b z w T R W T1 R1).allY (fun r => Q (canR [6, 7] [0, 1, 2, 3, 4, 5, 6, 7, 8, 9, 10, 11, 12, 13, 14, 15, 16, 17, 18, 19, 20, 21, 22, 23, 24, 25, 26, 27, 28, 29, 30, 31, 32, 33, 34, 35, 36, 37, 38, 39, 40, 41, 42, 43, 44, 45, 46, 47, 48, 49, 50, 51, 52, 53, 54, 55, 56, 57, 58, 59, 60, 61, 62, 63, 64, 65, 66, 67, 68, 69, 70, 71, 72, 73, 74, 75, 76, 77, 78, 79, 80, 81, 82, 83, 84, 85, 86, 87, 88, 89, 90, 91, 92, 93, 94, 95, 96, 97, 98, 99] r)) (.v (.int .i64 z, vcO2_s0 m b w T R W) (.v (.tuple [.bool false, .int .i64 (.ofNat 7)], vcO2_s1 m b w W T1 R1) (.v (.bool false, vcO2_s1 m b w W T1 R1) (.v (.bool true, vcO2_s1 m b w W T1 R1) .nil)))) := by kernel_rfl
noncomputable def vcO3_s0 (m : Int) (b : Int) (w : Bool) (T : AO) (R : AO) (W : AO) : ASt := mkSt [(0, T), (1, R), (2, W), (3, .cells [.int .i64 (.ofNat 1), .int .u64 m, .int .i64 b, .bool w] true)] 4
noncomputable def vcO3_s1 (m : Int) (b : Int) (w : Bool) (W : AO) (T1 : AO) (R1 : AO) (N1 : AO) : ASt := mkSt [(0, T1), (1, R1), (2, W), (3, .cells [.int .i64 (.ofNat 1), .int .u64 m, .int .i64 b, .bool w] true), (30, N1)] 44
noncomputable def vcO3_s2 (m : Int) (b : Int) (w : Bool) (W : AO) (T1 : AO) (R1 : AO) (N1 : AO) : ASt := mkSt [(0, T1), (1, R1), (2, W), (3, .cells [.int .i64 (.ofNat 1), .int .u64 m, .int .i64 b, .bool w] true), (30, N1)] 55
noncomputable def vcO3_s3 (m : Int) (b : Int) (w : Bool) (W : AO) (T1 : AO) (R1 : AO) (N1 : AO) (W1 : AO) : ASt := mkSt [(0, T1), (1, R1), (2, W), (3, .cells [.int .i64 (.ofNat 1), .int .u64 m, .int .i64 b, .bool w] true), (30, N1), (55, W1)] 56
noncomputable def vcO3_s4 (m : Int) (b : Int) (w : Bool) (W : AO) (T1 : AO) (R1 : AO) (N1 : AO) (W1 : AO) : ASt := mkSt [(0, T1), (1, R1), (2, W), (3, .cells [.int .i64 (.ofNat 1), .int .u64 m, .int .i64 b, .bool w] true), (30, N1), (52, .cells [.int .u64 m, .int .i64 (Int.negSucc 0), .bool w, .bool false] true), (55, W1)] 56
noncomputable def vcO3_s5 (m : Int) (b : Int) (w : Bool) (W : AO) (T1 : AO) (R1 : AO) (N1 : AO) (W2 : AO) : ASt := mkSt [(0, T1), (1, R1), (2, W), (3, .cells [.int .i64 (.ofNat 1), .int .u64 m, .int .i64 b, .bool w] true), (30, N1), (52, .cells [.int .u64 m, .int .i64 (Int.negSucc 0), .bool w, .bool false] true), (55, .dead), (56, W2)] 57
noncomputable def vcO3_s6 (m : Int) (b : Int) (w : Bool) (W : AO) (T1 : AO) (R1 : AO) (N1 : AO) (W3 : AO) : ASt := mkSt [(0, T1), (1, R1), (2, W), (3, .cells [.int .i64 (.ofNat 1), .int .u64 m, .int .i64 b, .bool w] true), (30, N1), (52, .cells [.int .u64 m, .int .i64 (Int.negSucc 0), .bool w, .bool false] true), (55, .dead), (56, W3)] 57
noncomputable def vcO3_s7 (m : Int) (b : Int) (w : Bool) (W : AO) (T1 : AO) (R1 : AO) (N1 : AO) (W3 : AO) : ASt := mkSt [(0, T1), (1, R1), (2, W), (3, .cells [.int .i64 (.ofNat 1), .int .u64 m, .int .i64 b, .bool w] true), (30, N1), (52, .cells [.int .u64 m, .int .i64 (Int.negSucc 0), .bool w, .bool false] true), (55, .dead), (56, W3)] 73
noncomputable def vcO3_s8 (m : Int) (b : Int) (w : Bool) (W : AO) (T1 : AO) (R1 : AO) (N1 : AO) (W1 : AO) : ASt := mkSt [(0, T1), (1, R1), (2, W), (3, .cells [.int .i64 (.ofNat 1), .int .u64 m, .int .i64 b, .bool w] true), (30, N1), (52, .cells [.int .u64 m, .int .i64 b, .bool w, .bool false] true), (55, W1)] 56
noncomputable def vcO3_s9 (m : Int) (b : Int) (w : Bool) (W : AO) (T1 : AO) (R1 : AO) (N1 : AO) (W2 : AO) : ASt := mkSt [(0, T1), (1, R1), (2, W), (3, .cells [.int .i64 (.ofNat 1), .int .u64 m, .int .i64 b, .bool w] true), (30, N1), (52, .cells [.int .u64 m, .int .i64 b, .bool w, .bool false] true), (55, .dead), (56, W2)] 57
noncomputable def vcO3_s10 (m : Int) (b : Int) (w : Bool) (W : AO) (T1 : AO) (R1 : AO) (N1 : AO) (W3 : AO) : ASt := mkSt [(0, T1), (1, R1), (2, W), (3, .cells [.int .i64 (.ofNat 1), .int .u64 m, .int .i64 b, .bool w] true), (30, N1), (52, .cells [.int .u64 m, .int .i64 b, .bool w, .bool false] true), (55, .dead), (56, W3)] 57
noncomputable def vcO3_s11 (m : Int) (b : Int) (w : Bool) (W : AO) (T1 : AO) (R1 : AO) (N1 : AO) (W3 : AO) : ASt := mkSt [(0, T1), (1, R1), (2, W), (3, .cells [.int .i64 (.ofNat 1), .int .u64 m, .int .i64 b, .bool w] true), (30, N1), (52, .cells [.int .u64 m, .int .i64 b, .bool w, .bool false] true), (55, .dead), (56, W3)] 73
theorem vcO3 (q : CallT) (n : Nat) (m : Int) (b : Int) (z : Int) (w : Bool) (y : Bool) (T : AO) (R : AO) (W : AO) (T1 : AO) (R1 : AO) (N1 : AO) (W1 : AO) (W2 : AO) (W3 : AO) (Q : Exit × AFr × ASt → Prop) :
  ((M EO (drawA EO) (smO q) 57).call 37 [.slice (some (2, 0)) n (.rest 4), .int .u64 m] (vcO3_s0 m b w T R W) = some (.int .i64 z, vcO3_s0 m b w T R W) ∧ (M EO (drawA EO) (smO q) 51).call 12 [.ptr (some (0, 0)), .int .u64 m, .int .i64 b, .bool w] (vcO3_s0 m b w T R W) = some (.tuple [.bool y, .int .i64 (.ofNat 0)], vcO3_s1 m b w W T1 R1 N1) ∧ still (vcO3_s1 m b w W T1 R1 N1) (aBin EO .gtr 3 (.tmp 39) (.const (.int .i64 63)) (.int .i64 b) (.int .i64 (.ofNat 63))) = some (.bool false, vcO3_s1 m b w W T1 R1 N1) ∧ still (vcO3_s1 m b w W T1 R1 N1) (aBin EO .geq 3 (.tmp 48) (.const (.int .i64 0)) (.int .i64 z) (.int .i64 (.ofNat 0))) = some (.bool false, vcO3_s1 m b w W T1 R1 N1) ∧ ifB (ltF b (.ofNat 0)) (aBuiltinM EO .append [27, 27] [.slice none 0 (.known 0), .slice (some (2, 0)) n (.rest 4)] (vcO3_s2 m b w W T1 R1 N1) = some (.slice (some (55, 0)) n (.rest 4), vcO3_s3 m b w W T1 R1 N1 W1) ∧ aBuiltinM EO .append [27, 27] [.slice (some (55, 0)) n (.rest 4), .slice (some (52, 0)) 1 (.known 1)] (vcO3_s4 m b w W T1 R1 N1 W1) = some (.slice (some (56, 0)) (n + 1) (.rest 4), vcO3_s5 m b w W T1 R1 N1 W2) ∧ holdsO [(some (.int .u64 m), .int .u64 m), (some (.bool w), .bool w)] ∧ aBuiltinM EO .len [27] [.slice (some (56, 0)) (n + 1) (.rest 4)] (vcO3_s5 m b w W T1 R1 N1 W2) = some (.int .i64 (.ofNat (n + 1)), vcO3_s5 m b w W T1 R1 N1 W2) ∧ still (vcO3_s5 m b w W T1 R1 N1 W2) (aBin EO .sub 3 (.tmp 73) (.const (.int .i64 1)) (.int .i64 (.ofNat (n + 1))) (.int .i64 (.ofNat 1))) = some (.int .i64 (.ofNat n), vcO3_s5 m b w W T1 R1 N1 W2) ∧ aBuiltinM EO .len [27] [.slice (some (56, 0)) (n + 1) (.rest 4)] (vcO3_s5 m b w W T1 R1 N1 W2) = some (.int .i64 (.ofNat (n + 1)), vcO3_s5 m b w W T1 R1 N1 W2) ∧ still (vcO3_s5 m b w W T1 R1 N1 W2) (aBin EO .sub 3 (.tmp 77) (.const (.int .i64 1)) (.int .i64 (.ofNat (n + 1))) (.int .i64 (.ofNat 1))) = some (.int .i64 (.ofNat n), vcO3_s5 m b w W T1 R1 N1 W2) ∧ (M EO (drawA EO) (smO q) 45).call 38 [.slice (some (56, 0)) (n + 1) (.rest 4), .int .i64 (.ofNat n)] (vcO3_s5 m b w W T1 R1 N1 W2) = some (.bool y, vcO3_s5 m b w W T1 R1 N1 W2) ∧ still (vcO3_s5 m b w W T1 R1 N1 W2) (aIndexAddr EO 27 (.slice (some (56, 0)) (n + 1) (.rest 4)) (.int .i64 (.ofNat n))) = some (.ptr (some (56, n * 4)), vcO3_s5 m b w W T1 R1 N1 W2) ∧ Option.map (fun s => (undefA, s)) (aStore EO 4 (.ptr (some (56, n * 4 + 3))) (.bool y) (vcO3_s5 m b w W T1 R1 N1 W2)) = some (.tuple [], vcO3_s6 m b w W T1 R1 N1 W3) ∧ aBuiltinM EO .len [27] [.slice (some (56, 0)) (n + 1) (.rest 4)] (vcO3_s7 m b w W T1 R1 N1 W3) = some (.int .i64 (.ofNat (n + 1)), vcO3_s7 m b w W T1 R1 N1 W3) ∧ still (vcO3_s7 m b w W T1 R1 N1 W3) (aBin EO .sub 3 (.tmp 89) (.const (.int .i64 1)) (.int .i64 (.ofNat (n + 1))) (.int .i64 (.ofNat 1))) = some (.int .i64 (.ofNat n), vcO3_s7 m b w W T1 R1 N1 W3) ∧ still (vcO3_s7 m b w W T1 R1 N1 W3) (aIndexAddr EO 27 (.slice (some (56, 0)) (n + 1) (.rest 4)) (.int .i64 (.ofNat n))) = some (.ptr (some (56, n * 4)), vcO3_s7 m b w W T1 R1 N1 W3) ∧ aLoad EO 4 (.ptr (some (56, n * 4 + 3))) (vcO3_s7 m b w W T1 R1 N1 W3) = some (.bool y, vcO3_s7 m b w W T1 R1 N1 W3) ∧ still (vcO3_s7 m b w W T1 R1 N1 W3) (aBin EO .eql 4 (.tmp 86) (.tmp 93) (.bool y) (.bool y)) = some (.bool true, vcO3_s7 m b w W T1 R1 N1 W3) ∧ Q (.ret, xFr [(6, .slice (some (56, 0)) (n + 1) (.rest 4)), (7, .bool true)] 183, vcO3_s7 m b w W T1 R1 N1 W3)) (aBuiltinM EO .append [27, 27] [.slice none 0 (.known 0), .slice (some (2, 0)) n (.rest 4)] (vcO3_s2 m b w W T1 R1 N1) = some (.slice (some (55, 0)) n (.rest 4), vcO3_s3 m b w W T1 R1 N1 W1) ∧ aBuiltinM EO .append [27, 27] [.slice (some (55, 0)) n (.rest 4), .slice (some (52, 0)) 1 (.known 1)] (vcO3_s8 m b w W T1 R1 N1 W1) = some (.slice (some (56, 0)) (n + 1) (.rest 4), vcO3_s9 m b w W T1 R1 N1 W2) ∧ holdsO [(some (.int .u64 m), .int .u64 m), (some (.bool w), .bool w)] ∧ aBuiltinM EO .len [27] [.slice (some (56, 0)) (n + 1) (.rest 4)] (vcO3_s9 m b w W T1 R1 N1 W2) = some (.int .i64 (.ofNat (n + 1)), vcO3_s9 m b w W T1 R1 N1 W2) ∧ still (vcO3_s9 m b w W T1 R1 N1 W2) (aBin EO .sub 3 (.tmp 73) (.const (.int .i64 1)) (.int .i64 (.ofNat (n + 1))) (.int .i64 (.ofNat 1))) = some (.int .i64 (.ofNat n), vcO3_s9 m b w W T1 R1 N1 W2) ∧ aBuiltinM EO .len [27] [.slice (some (56, 0)) (n + 1) (.rest 4)] (vcO3_s9 m b w W T1 R1 N1 W2) = some (.int .i64 (.ofNat (n + 1)), vcO3_s9 m b w W T1 R1 N1 W2) ∧ still (vcO3_s9 m b w W T1 R1 N1 W2) (aBin EO .sub 3 (.tmp 77) (.const (.int .i64 1)) (.int .i64 (.ofNat (n + 1))) (.int .i64 (.ofNat 1))) = some (.int .i64 (.ofNat n), vcO3_s9 m b w W T1 R1 N1 W2) ∧ (M EO (drawA EO) (smO q) 45).call 38 [.slice (some (56, 0)) (n + 1) (.rest 4), .int .i64 (.ofNat n)] (vcO3_s9 m b w W T1 R1 N1 W2) = some (.bool y, vcO3_s9 m b w W T1 R1 N1 W2) ∧ still (vcO3_s9 m b w W T1 R1 N1 W2) (aIndexAddr EO 27 (.slice (some (56, 0)) (n + 1) (.rest 4)) (.int .i64 (.ofNat n))) = some (.ptr (some (56, n * 4)), vcO3_s9 m b w W T1 R1 N1 W2) ∧ Option.map (fun s => (undefA, s)) (aStore EO 4 (.ptr (some (56, n * 4 + 3))) (.bool y) (vcO3_s9 m b w W T1 R1 N1 W2)) = some (.tuple [], vcO3_s10 m b w W T1 R1 N1 W3) ∧ aBuiltinM EO .len [27] [.slice (some (56, 0)) (n + 1) (.rest 4)] (vcO3_s11 m b w W T1 R1 N1 W3) = some (.int .i64 (.ofNat (n + 1)), vcO3_s11 m b w W T1 R1 N1 W3) ∧ still (vcO3_s11 m b w W T1 R1 N1 W3) (aBin EO .sub 3 (.tmp 89) (.const (.int .i64 1)) (.int .i64 (.ofNat (n + 1))) (.int .i64 (.ofNat 1))) = some (.int .i64 (.ofNat n), vcO3_s11 m b w W T1 R1 N1 W3) ∧ still (vcO3_s11 m b w W T1 R1 N1 W3) (aIndexAddr EO 27 (.slice (some (56, 0)) (n + 1) (.rest 4)) (.int .i64 (.ofNat n))) = some (.ptr (some (56, n * 4)), vcO3_s11 m b w W T1 R1 N1 W3) ∧ aLoad EO 4 (.ptr (some (56, n * 4 + 3))) (vcO3_s11 m b w W T1 R1 N1 W3) = some (.bool y, vcO3_s11 m b w W T1 R1 N1 W3) ∧ still (vcO3_s11 m b w W T1 R1 N1 W3) (aBin EO .eql 4 (.tmp 86) (.tmp 93) (.bool y) (.bool y)) = some (.bool true, vcO3_s11 m b w W T1 R1 N1 W3) ∧ Q (.ret, xFr [(6, .slice (some (56, 0)) (n + 1) (.rest 4)), (7, .bool true)] 183, vcO3_s11 m b w W T1 R1 N1 W3))) =
  (tO3 q n m b z w y T R W T1 R1 N1 W1 W2 W3).allY (fun r => Q (canR [6, 7] [0, 1, 2, 3, 4, 5, 6, 7, 8, 9, 10, 11, 12, 13, 14, 15, 16, 17, 18, 19, 20, 21, 22, 23, 24, 25, 26, 27, 28, 29, 30, 31, 32, 33, 34, 35, 36, 37, 38, 39, 40, 41, 42, 43, 44, 45, 46, 47, 48, 49, 50, 51, 52, 53, 54, 55, 56, 57, 58, 59, 60, 61, 62, 63, 64, 65, 66, 67, 68, 69, 70, 71, 72, 73, 74, 75, 76, 77, 78, 79, 80, 81, 82, 83, 84, 85, 86, 87, 88, 89, 90, 91, 92, 93, 94, 95, 96, 97, 98, 99] r)) (.v (.int .i64 z, vcO3_s0 m b w T R W) (.v (.tuple [.bool y, .int .i64 (.ofNat 0)], vcO3_s1 m b w W T1 R1 N1) (.v (.bool false, vcO3_s1 m b w W T1 R1 N1) (.v (.bool false, vcO3_s1 m b w W T1 R1 N1) (.b (.v (.slice (some (55, 0)) n (.rest 4), vcO3_s3 m b w W T1 R1 N1 W1) (.v (.slice (some (56, 0)) (n + 1) (.rest 4), vcO3_s5 m b w W T1 R1 N1 W2) (.v (.int .i64 (.ofNat (n + 1)), vcO3_s5 m b w W T1 R1 N1 W2) (.v (.int .i64 (.ofNat n), vcO3_s5 m b w W T1 R1 N1 W2) (.v (.int .i64 (.ofNat (n + 1)), vcO3_s5 m b w W T1 R1 N1 W2) (.v (.int .i64 (.ofNat n), vcO3_s5 m b w W T1 R1 N1 W2) (.v (.bool y, vcO3_s5 m b w W T1 R1 N1 W2) (.v (.ptr (some (56, n * 4)), vcO3_s5 m b w W T1 R1 N1 W2) (.v (.tuple [], vcO3_s6 m b w W T1 R1 N1 W3) (.v (.int .i64 (.ofNat (n + 1)), vcO3_s7 m b w W T1 R1 N1 W3) (.v (.int .i64 (.ofNat n), vcO3_s7 m b w W T1 R1 N1 W3) (.v (.ptr (some (56, n * 4)), vcO3_s7 m b w W T1 R1 N1 W3) (.v (.bool y, vcO3_s7 m b w W T1 R1 N1 W3) (.v (.bool true, vcO3_s7 m b w W T1 R1 N1 W3) .nil)))))))))))))) (.v (.slice (some (55, 0)) n (.rest 4), vcO3_s3 m b w W T1 R1 N1 W1) (.v (.slice (some (56, 0)) (n + 1) (.rest 4), vcO3_s9 m b w W T1 R1 N1 W2) (.v (.int .i64 (.ofNat (n + 1)), vcO3_s9 m b w W T1 R1 N1 W2) (.v (.int .i64 (.ofNat n), vcO3_s9 m b w W T1 R1 N1 W2) (.v (.int .i64 (.ofNat (n + 1)), vcO3_s9 m b w W T1 R1 N1 W2) (.v (.int .i64 (.ofNat n), vcO3_s9 m b w W T1 R1 N1 W2) (.v (.bool y, vcO3_s9 m b w W T1 R1 N1 W2) (.v (.ptr (some (56, n * 4)), vcO3_s9 m b w W T1 R1 N1 W2) (.v (.tuple [], vcO3_s10 m b w W T1 R1 N1 W3) (.v (.int .i64 (.ofNat (n + 1)), vcO3_s11 m b w W T1 R1 N1 W3) (.v (.int .i64 (.ofNat n), vcO3_s11 m b w W T1 R1 N1 W3) (.v (.ptr (some (56, n * 4)), vcO3_s11 m b w W T1 R1 N1 W3) (.v (.bool y, vcO3_s11 m b w W T1 R1 N1 W3) (.v (.bool true, vcO3_s11 m b w W T1 R1 N1 W3) .nil))))))))))))))))))) := by kernel_rfl
noncomputable def vcO4_s0 (m : Int) (b : Int) (w : Bool) (T : AO) (R : AO) : ASt := mkSt [(0, T), (1, R), (2, .dead), (3, .cells [.int .i64 (.ofNat 1), .int .u64 m, .int .i64 b, .bool w] true)] 4
noncomputable def vcO4_s1 (m : Int) (b : Int) (w : Bool) (T1 : AO) (R1 : AO) (N1 : AO) : ASt := mkSt [(0, T1), (1, R1), (2, .dead), (3, .cells [.int .i64 (.ofNat 1), .int .u64 m, .int .i64 b, .bool w] true), (30, N1)] 44
noncomputable def vcO4_s2 (m : Int) (b : Int) (w : Bool) (T1 : AO) (R1 : AO) (N1 : AO) : ASt := mkSt [(0, T1), (1, R1), (2, .dead), (3, .cells [.int .i64 (.ofNat 1), .int .u64 m, .int .i64 b, .bool w] true), (30, N1)] 55
noncomputable def vcO4_s3 (m : Int) (b : Int) (w : Bool) (T1 : AO) (R1 : AO) (N1 : AO) : ASt := mkSt [(0, T1), (1, R1), (2, .dead), (3, .cells [.int .i64 (.ofNat 1), .int .u64 m, .int .i64 b, .bool w] true), (30, N1), (52, .cells [.int .u64 m, .int .i64 (Int.negSucc 0), .bool w, .bool false] true)] 55
noncomputable def vcO4_s4 (m : Int) (b : Int) (w : Bool) (T1 : AO) (R1 : AO) (N1 : AO) (W2 : AO) : ASt := mkSt [(0, T1), (1, R1), (2, .dead), (3, .cells [.int .i64 (.ofNat 1), .int .u64 m, .int .i64 b, .bool w] true), (30, N1), (52, .cells [.int .u64 m, .int .i64 (Int.negSucc 0), .bool w, .bool false] true), (55, W2)] 56
noncomputable def vcO4_s5 (m : Int) (b : Int) (w : Bool) (T1 : AO) (R1 : AO) (N1 : AO) (W3 : AO) : ASt := mkSt [(0, T1), (1, R1), (2, .dead), (3, .cells [.int .i64 (.ofNat 1), .int .u64 m, .int .i64 b, .bool w] true), (30, N1), (52, .cells [.int .u64 m, .int .i64 (Int.negSucc 0), .bool w, .bool false] true), (55, W3)] 56
noncomputable def vcO4_s6 (m : Int) (b : Int) (w : Bool) (T1 : AO) (R1 : AO) (N1 : AO) (W3 : AO) : ASt := mkSt [(0, T1), (1, R1), (2, .dead), (3, .cells [.int .i64 (.ofNat 1), .int .u64 m, .int .i64 b, .bool w] true), (30, N1), (52, .cells [.int .u64 m, .int .i64 (Int.negSucc 0), .bool w, .bool false] true), (55, W3)] 72
noncomputable def vcO4_s7 (m : Int) (b : Int) (w : Bool) (T1 : AO) (R1 : AO) (N1 : AO) : ASt := mkSt [(0, T1), (1, R1), (2, .dead), (3, .cells [.int .i64 (.ofNat 1), .int .u64 m, .int .i64 b, .bool w] true), (30, N1), (52, .cells [.int .u64 m, .int .i64 b, .bool w, .bool false] true)] 55
noncomputable def vcO4_s8 (m : Int) (b : Int) (w : Bool) (T1 : AO) (R1 : AO) (N1 : AO) (W2 : AO) : ASt := mkSt [(0, T1), (1, R1), (2, .dead), (3, .cells [.int .i64 (.ofNat 1), .int .u64 m, .int .i64 b, .bool w] true), (30, N1), (52, .cells [.int .u64 m, .int .i64 b, .bool w, .bool false] true), (55, W2)] 56
noncomputable def vcO4_s9 (m : Int) (b : Int) (w : Bool) (T1 : AO) (R1 : AO) (N1 : AO) (W3 : AO) : ASt := mkSt [(0, T1), (1, R1), (2, .dead), (3, .cells [.int .i64 (.ofNat 1), .int .u64 m, .int .i64 b, .bool w] true), (30, N1), (52, .cells [.int .u64 m, .int .i64 b, .bool w, .bool false] true), (55, W3)] 56
noncomputable def vcO4_s10 (m : Int) (b : Int) (w : Bool) (T1 : AO) (R1 : AO) (N1 : AO) (W3 : AO) : ASt := mkSt [(0, T1), (1, R1), (2, .dead), (3, .cells [.int .i64 (.ofNat 1), .int .u64 m, .int .i64 b, .bool w] true), (30, N1), (52, .cells [.int .u64 m, .int .i64 b, .bool w, .bool false] true), (55, W3)] 72
theorem vcO4 (q : CallT) (m : Int) (b : Int) (z : Int) (w : Bool) (y : Bool) (T : AO) (R : AO) (T1 : AO) (R1 : AO) (N1 : AO) (W2 : AO) (W3 : AO) (Q : Exit × AFr × ASt → Prop) :
  ((M EO (drawA EO) (smO q) 57).call 37 [.slice none 0 (.known 0), .int .u64 m] (vcO4_s0 m b w T R) = some (.int .i64 z, vcO4_s0 m b w T R) ∧ (M EO (drawA EO) (smO q) 51).call 12 [.ptr (some (0, 0)), .int .u64 m, .int .i64 b, .bool w] (vcO4_s0 m b w T R) = some (.tuple [.bool y, .int .i64 (.ofNat 0)], vcO4_s1 m b w T1 R1 N1) ∧ still (vcO4_s1 m b w T1 R1 N1) (aBin EO .gtr 3 (.tmp 39) (.const (.int .i64 63)) (.int .i64 b) (.int .i64 (.ofNat 63))) = some (.bool false, vcO4_s1 m b w T1 R1 N1) ∧ still (vcO4_s1 m b w T1 R1 N1) (aBin EO .geq 3 (.tmp 48) (.const (.int .i64 0)) (.int .i64 z) (.int .i64 (.ofNat 0))) = some (.bool false, vcO4_s1 m b w T1 R1 N1) ∧ ifB (ltF b (.ofNat 0)) (aBuiltinM EO .append [27, 27] [.slice none 0 (.known 0), .slice none 0 (.known 0)] (vcO4_s2 m b w T1 R1 N1) = some (.slice none 0 (.known 0), vcO4_s2 m b w T1 R1 N1) ∧ aBuiltinM EO .append [27, 27] [.slice none 0 (.known 0), .slice (some (52, 0)) 1 (.known 1)] (vcO4_s3 m b w T1 R1 N1) = some (.slice (some (55, 0)) 1 (.rest 4), vcO4_s4 m b w T1 R1 N1 W2) ∧ holdsO [(some (.int .u64 m), .int .u64 m), (some (.bool w), .bool w)] ∧ (M EO (drawA EO) (smO q) 45).call 38 [.slice (some (55, 0)) 1 (.rest 4), .int .i64 (.ofNat 0)] (vcO4_s4 m b w T1 R1 N1 W2) = some (.bool y, vcO4_s4 m b w T1 R1 N1 W2) ∧ still (vcO4_s4 m b w T1 R1 N1 W2) (aIndexAddr EO 27 (.slice (some (55, 0)) 1 (.rest 4)) (.int .i64 (.ofNat 0))) = some (.ptr (some (55, 0)), vcO4_s4 m b w T1 R1 N1 W2) ∧ Option.map (fun s => (undefA, s)) (aStore EO 4 (.ptr (some (55, 3))) (.bool y) (vcO4_s4 m b w T1 R1 N1 W2)) = some (.tuple [], vcO4_s5 m b w T1 R1 N1 W3) ∧ still (vcO4_s6 m b w T1 R1 N1 W3) (aIndexAddr EO 27 (.slice (some (55, 0)) 1 (.rest 4)) (.int .i64 (.ofNat 0))) = some (.ptr (some (55, 0)), vcO4_s6 m b w T1 R1 N1 W3) ∧ aLoad EO 4 (.ptr (some (55, 3))) (vcO4_s6 m b w T1 R1 N1 W3) = some (.bool y, vcO4_s6 m b w T1 R1 N1 W3) ∧ still (vcO4_s6 m b w T1 R1 N1 W3) (aBin EO .eql 4 (.tmp 86) (.tmp 93) (.bool y) (.bool y)) = some (.bool true, vcO4_s6 m b w T1 R1 N1 W3) ∧ Q (.ret, xFr [(6, .slice (some (55, 0)) 1 (.rest 4)), (7, .bool true)] 183, vcO4_s6 m b w T1 R1 N1 W3)) (aBuiltinM EO .append [27, 27] [.slice none 0 (.known 0), .slice none 0 (.known 0)] (vcO4_s2 m b w T1 R1 N1) = some (.slice none 0 (.known 0), vcO4_s2 m b w T1 R1 N1) ∧ aBuiltinM EO .append [27, 27] [.slice none 0 (.known 0), .slice (some (52, 0)) 1 (.known 1)] (vcO4_s7 m b w T1 R1 N1) = some (.slice (some (55, 0)) 1 (.rest 4), vcO4_s8 m b w T1 R1 N1 W2) ∧ holdsO [(some (.int .u64 m), .int .u64 m), (some (.bool w), .bool w)] ∧ (M EO (drawA EO) (smO q) 45).call 38 [.slice (some (55, 0)) 1 (.rest 4), .int .i64 (.ofNat 0)] (vcO4_s8 m b w T1 R1 N1 W2) = some (.bool y, vcO4_s8 m b w T1 R1 N1 W2) ∧ still (vcO4_s8 m b w T1 R1 N1 W2) (aIndexAddr EO 27 (.slice (some (55, 0)) 1 (.rest 4)) (.int .i64 (.ofNat 0))) = some (.ptr (some (55, 0)), vcO4_s8 m b w T1 R1 N1 W2) ∧ Option.map (fun s => (undefA, s)) (aStore EO 4 (.ptr (some (55, 3))) (.bool y) (vcO4_s8 m b w T1 R1 N1 W2)) = some (.tuple [], vcO4_s9 m b w T1 R1 N1 W3) ∧ still (vcO4_s10 m b w T1 R1 N1 W3) (aIndexAddr EO 27 (.slice (some (55, 0)) 1 (.rest 4)) (.int .i64 (.ofNat 0))) = some (.ptr (some (55, 0)), vcO4_s10 m b w T1 R1 N1 W3) ∧ aLoad EO 4 (.ptr (some (55, 3))) (vcO4_s10 m b w T1 R1 N1 W3) = some (.bool y, vcO4_s10 m b w T1 R1 N1 W3) ∧ still (vcO4_s10 m b w T1 R1 N1 W3) (aBin EO .eql 4 (.tmp 86) (.tmp 93) (.bool y) (.bool y)) = some (.bool true, vcO4_s10 m b w T1 R1 N1 W3) ∧ Q (.ret, xFr [(6, .slice (some (55, 0)) 1 (.rest 4)), (7, .bool true)] 183, vcO4_s10 m b w T1 R1 N1 W3))) =
  (tO4 q m b z w y T R T1 R1 N1 W2 W3).allY (fun r => Q (canR [6, 7] [0, 1, 2, 3, 4, 5, 6, 7, 8, 9, 10, 11, 12, 13, 14, 15, 16, 17, 18, 19, 20, 21, 22, 23, 24, 25, 26, 27, 28, 29, 30, 31, 32, 33, 34, 35, 36, 37, 38, 39, 40, 41, 42, 43, 44, 45, 46, 47, 48, 49, 50, 51, 52, 53, 54, 55, 56, 57, 58, 59, 60, 61, 62, 63, 64, 65, 66, 67, 68, 69, 70, 71, 72, 73, 74, 75, 76, 77, 78, 79, 80, 81, 82, 83, 84, 85, 86, 87, 88, 89, 90, 91, 92, 93, 94, 95, 96, 97, 98, 99] r)) (.v (.int .i64 z, vcO4_s0 m b w T R) (.v (.tuple [.bool y, .int .i64 (.ofNat 0)], vcO4_s1 m b w T1 R1 N1) (.v (.bool false, vcO4_s1 m b w T1 R1 N1) (.v (.bool false, vcO4_s1 m b w T1 R1 N1) (.b (.v (.slice none 0 (.known 0), vcO4_s2 m b w T1 R1 N1) (.v (.slice (some (55, 0)) 1 (.rest 4), vcO4_s4 m b w T1 R1 N1 W2) (.v (.bool y, vcO4_s4 m b w T1 R1 N1 W2) (.v (.ptr (some (55, 0)), vcO4_s4 m b w T1 R1 N1 W2) (.v (.tuple [], vcO4_s5 m b w T1 R1 N1 W3) (.v (.ptr (some (55, 0)), vcO4_s6 m b w T1 R1 N1 W3) (.v (.bool y, vcO4_s6 m b w T1 R1 N1 W3) (.v (.bool true, vcO4_s6 m b w T1 R1 N1 W3) .nil)))))))) (.v (.slice none 0 (.known 0), vcO4_s2 m b w T1 R1 N1) (.v (.slice (some (55, 0)) 1 (.rest 4), vcO4_s8 m b w T1 R1 N1 W2) (.v (.bool y, vcO4_s8 m b w T1 R1 N1 W2) (.v (.ptr (some (55, 0)), vcO4_s8 m b w T1 R1 N1 W2) (.v (.tuple [], vcO4_s9 m b w T1 R1 N1 W3) (.v (.ptr (some (55, 0)), vcO4_s10 m b w T1 R1 N1 W3) (.v (.bool y, vcO4_s10 m b w T1 R1 N1 W3) (.v (.bool true, vcO4_s10 m b w T1 R1 N1 W3) .nil))))))))))))) := by kernel_rfl
noncomputable def vcO5_s0 (m : Int) (b : Int) (w : Bool) (T : AO) (R : AO) (W : AO) : ASt := mkSt [(0, T), (1, R), (2, W), (3, .cells [.int .i64 (.ofNat 2), .int .u64 m, .int .i64 b, .bool w] true)] 4
noncomputable def vcO5_s1 (m : Int) (b : Int) (w : Bool) (W : AO) (T1 : AO) (R1 : AO) : ASt := mkSt [(0, T1), (1, R1), (2, W), (3, .cells [.int .i64 (.ofNat 2), .int .u64 m, .int .i64 b, .bool w] true)] 44
theorem vcO5 (q : CallT) (V : AV) (m : Int) (b : Int) (z : Int) (w : Bool) (T : AO) (R : AO) (W : AO) (T1 : AO) (R1 : AO) (Q : Exit × AFr × ASt → Prop) :
  ((M EO (drawA EO) (smO q) 57).call 37 [V, .int .u64 m] (vcO5_s0 m b w T R W) = some (.int .i64 z, vcO5_s0 m b w T R W) ∧ (M EO (drawA EO) (smO q) 49).call 13 [.ptr (some (0, 0)), .int .u64 m] (vcO5_s0 m b w T R W) = some (.tuple [.slice none 0 (.known 0), .int .i64 (.ofNat 6)], vcO5_s1 m b w W T1 R1) ∧ still (vcO5_s1 m b w W T1 R1) (aBin EO .lss 3 (.tmp 105) (.const (.int .i64 0)) (.int .i64 z) (.int .i64 (.ofNat 0))) = some (.bool true, vcO5_s1 m b w W T1 R1) ∧ Q (.ret, xFr [(6, V), (7, .bool true)] 183, vcO5_s1 m b w W T1 R1)) =
  (tO5 q V m b z w T R W T1 R1).allY (fun r => Q (canR [6, 7] [0, 1, 2, 3, 4, 5, 6, 7, 8, 9, 10, 11, 12, 13, 14, 15, 16, 17, 18, 19, 20, 21, 22, 23, 24, 25, 26, 27, 28, 29, 30, 31, 32, 33, 34, 35, 36, 37, 38, 39, 40, 41, 42, 43, 44, 45, 46, 47, 48, 49, 50, 51, 52, 53, 54, 55, 56, 57, 58, 59, 60, 61, 62, 63, 64, 65, 66, 67, 68, 69, 70, 71, 72, 73, 74, 75, 76, 77, 78, 79, 80, 81, 82, 83, 84, 85, 86, 87, 88, 89, 90, 91, 92, 93, 94, 95, 96, 97, 98, 99] r)) (.v (.int .i64 z, vcO5_s0 m b w T R W) (.v (.tuple [.slice none 0 (.known 0), .int .i64 (.ofNat 6)], vcO5_s1 m b w W T1 R1) (.v (.bool true, vcO5_s1 m b w W T1 R1) .nil))) := by kernel_rfl
noncomputable def vcPa_s0 (kd : Int) (m : Int) (b : Int) (w : Bool) (T : AO) (R : AO) (W : AO) : ASt := mkSt [(0, T), (1, R), (2, W), (3, .cells [.int .i64 kd, .int .u64 m, .int .i64 b, .bool w] true)] 4
theorem vcPa (q : CallT) (V : AV) (kd : Int) (m : Int) (b : Int) (z : Int) (w : Bool) (T : AO) (R : AO) (W : AO) (Q : Exit × AFr × ASt → Prop) :
  ((M EO (drawA EO) (smO q) 58).call 37 [V, .int .u64 m] (vcPa_s0 kd m b w T R W) = some (.int .i64 z, vcPa_s0 kd m b w T R W) ∧ Q (.normal, xFr [(0, .ptr (some (0, 0))), (1, V), (5, .ptr (some (3, 0))), (8, .int .i64 z)] 183, vcPa_s0 kd m b w T R W)) =
  (tPa q V kd m b z w T R W).allY (fun r => Q (canR [0, 1, 5, 8] [0, 1, 2, 3, 4, 5, 6, 7, 8, 9, 10, 11, 12, 13, 14, 15, 16, 17, 18, 19, 20, 21, 22, 23, 24, 25, 26, 27, 28, 29, 30, 31, 32, 33, 34, 35, 36, 37, 38, 39, 40, 41, 42, 43, 44, 45, 46, 47, 48, 49, 50, 51, 52, 53, 54, 55, 56, 57, 58, 59, 60, 61, 62, 63, 64, 65, 66, 67, 68, 69, 70, 71, 72, 73, 74, 75, 76, 77, 78, 79, 80, 81, 82, 83, 84, 85, 86, 87, 88, 89, 90, 91, 92, 93, 94, 95, 96, 97, 98, 99] r)) (.v (.int .i64 z, vcPa_s0 kd m b w T R W) .nil) := by kernel_rfl
noncomputable def vcKa_s0 (kd : Int) (m : Int) (b : Int) (w : Bool) (T : AO) (R : AO) (W : AO) : ASt := mkSt [(0, T), (1, R), (2, W), (3, .cells [.int .i64 kd, .int .u64 m, .int .i64 b, .bool w] true)] 4
noncomputable def vcKa_s1 (kd : Int) (m : Int) (b : Int) (w : Bool) (W : AO) (T1 : AO) (R1 : AO) (N : AO) (O : AO) : ASt := mkSt [(0, T1), (1, R1), (2, W), (3, .cells [.int .i64 kd, .int .u64 m, .int .i64 b, .bool w] true), (6, N), (7, O)] 44
theorem vcKa (q : CallT) (V : AV) (Vo : AV) (kd : Int) (m : Int) (b : Int) (z : Int) (w : Bool) (T : AO) (R : AO) (W : AO) (T1 : AO) (R1 : AO) (N : AO) (O : AO) (Q : Exit × AFr × ASt → Prop) :
  ((M EO (drawA EO) (smO q) 58).call 13 [.ptr (some (0, 0)), .int .u64 m] (vcKa_s0 kd m b w T R W) = some (.tuple [Vo, .int .i64 (.ofNat 0)], vcKa_s1 kd m b w W T1 R1 N O) ∧ still (vcKa_s1 kd m b w W T1 R1 N O) (aBin EO .lss 3 (.tmp 105) (.const (.int .i64 0)) (.int .i64 z) (.int .i64 (.ofNat 0))) = some (.bool false, vcKa_s1 kd m b w W T1 R1 N O) ∧ Q (.normal, xFr [(1, V), (8, .int .i64 z), (12, Vo), (13, .int .i64 (.ofNat 0))] 183, vcKa_s1 kd m b w W T1 R1 N O)) =
  (tKa q V Vo kd m b z w T R W T1 R1 N O).allY (fun r => Q (canR [1, 8, 12, 13] [0, 1, 2, 3, 4, 5, 6, 7, 8, 9, 10, 11, 12, 13, 14, 15, 16, 17, 18, 19, 20, 21, 22, 23, 24, 25, 26, 27, 28, 29, 30, 31, 32, 33, 34, 35, 36, 37, 38, 39, 40, 41, 42, 43, 44, 45, 46, 47, 48, 49, 50, 51, 52, 53, 54, 55, 56, 57, 58, 59, 60, 61, 62, 63, 64, 65, 66, 67, 68, 69, 70, 71, 72, 73, 74, 75, 76, 77, 78, 79, 80, 81, 82, 83, 84, 85, 86, 87, 88, 89, 90, 91, 92, 93, 94, 95, 96, 97, 98, 99] r)) (.v (.tuple [Vo, .int .i64 (.ofNat 0)], vcKa_s1 kd m b w W T1 R1 N O) (.v (.bool false, vcKa_s1 kd m b w W T1 R1 N O) .nil)) := by kernel_rfl
noncomputable def vcKb1_s0 (T : AO) (R : AO) (W : AO) (N : AO) (O : AO) : ASt := mkSt [(0, T), (1, R), (2, W), (3, N), (4, O)] 15
theorem vcKb1 (Vo : AV) (T : AO) (R : AO) (W : AO) (N : AO) (O : AO) (Q : Exit × AFr × ASt → Prop) :
  (still (vcKb1_s0 T R W N O) (aSlice EO 27 (.slice (some (2, 0)) 1 (.rest 4)) none (some (.int .i64 (.ofNat 0))) none (vcKb1_s0 T R W N O)) = some (.slice (some (2, 0)) 0 (.rest 4), vcKb1_s0 T R W N O) ∧ aBuiltinM EO .append [27, 27] [.slice none 0 (.known 0), .slice (some (2, 0)) 0 (.rest 4)] (vcKb1_s0 T R W N O) = some (.slice none 0 (.known 0), vcKb1_s0 T R W N O) ∧ still (vcKb1_s0 T R W N O) (aSlice EO 27 (.slice (some (2, 0)) 1 (.rest 4)) (some (.int .i64 (.ofNat 1))) none none (vcKb1_s0 T R W N O)) = some (.slice0, vcKb1_s0 T R W N O) ∧ aBuiltinM EO .append [27, 27] [.slice none 0 (.known 0), .slice0] (vcKb1_s0 T R W N O) = some (.slice none 0 (.known 0), vcKb1_s0 T R W N O) ∧ holdsO [(fstO (still (vcKb1_s0 T R W N O) (aSlice EO 27 (.slice (some (2, 0)) 1 (.rest 4)) (some (.int .i64 (.ofNat 1))) none none (vcKb1_s0 T R W N O))), .slice0)] ∧ Q (.normal, xFr [(1, .slice none 0 (.known 0)), (12, Vo), (13, .int .i64 (.ofNat 0))] 183, vcKb1_s0 T R W N O)) =
  (tKb1 Vo T R W N O).allY (fun r => Q (canR [1, 12, 13] [0, 1, 2, 3, 4, 5, 6, 7, 8, 9, 10, 11, 12, 13, 14, 15, 16, 17, 18, 19, 20, 21, 22, 23, 24, 25, 26, 27, 28, 29, 30, 31, 32, 33, 34, 35, 36, 37, 38, 39, 40, 41, 42, 43, 44, 45, 46, 47, 48, 49, 50, 51, 52, 53, 54, 55, 56, 57, 58, 59, 60, 61, 62, 63, 64, 65, 66, 67, 68, 69, 70, 71, 72, 73, 74, 75, 76, 77, 78, 79, 80, 81, 82, 83, 84, 85, 86, 87, 88, 89, 90, 91, 92, 93, 94, 95, 96, 97, 98, 99] r)) (.v (.slice (some (2, 0)) 0 (.rest 4), vcKb1_s0 T R W N O) (.v (.slice none 0 (.known 0), vcKb1_s0 T R W N O) (.v (.slice0, vcKb1_s0 T R W N O) (.v (.slice none 0 (.known 0), vcKb1_s0 T R W N O) .nil)))) := by kernel_rfl
noncomputable def vcKb2_s0 (T : AO) (R : AO) (W : AO) (N : AO) (O : AO) : ASt := mkSt [(0, T), (1, R), (2, W), (3, N), (4, O)] 15
noncomputable def vcKb2_s1 (T : AO) (R : AO) (W : AO) (N : AO) (O : AO) (W1 : AO) : ASt := mkSt [(0, T), (1, R), (2, W), (3, N), (4, O), (15, W1)] 16
theorem vcKb2 (Vo : AV) (d : Nat) (T : AO) (R : AO) (W : AO) (N : AO) (O : AO) (W1 : AO) (Q : Exit × AFr × ASt → Prop) :
  (still (vcKb2_s0 T R W N O) (aSlice EO 27 (.slice (some (2, 0)) (d + 1) (.rest 4)) none (some (.int .i64 (.ofNat 0))) none (vcKb2_s0 T R W N O)) = some (.slice (some (2, 0)) 0 (.rest 4), vcKb2_s0 T R W N O) ∧ aBuiltinM EO .append [27, 27] [.slice none 0 (.known 0), .slice (some (2, 0)) 0 (.rest 4)] (vcKb2_s0 T R W N O) = some (.slice none 0 (.known 0), vcKb2_s0 T R W N O) ∧ still (vcKb2_s0 T R W N O) (aSlice EO 27 (.slice (some (2, 0)) (d + 1) (.rest 4)) (some (.int .i64 (.ofNat 1))) none none (vcKb2_s0 T R W N O)) = some (.slice (some (2, 4)) d (.rest 4), vcKb2_s0 T R W N O) ∧ aBuiltinM EO .append [27, 27] [.slice none 0 (.known 0), .slice (some (2, 4)) d (.rest 4)] (vcKb2_s0 T R W N O) = some (.slice (some (15, 0)) d (.rest 4), vcKb2_s1 T R W N O W1) ∧ holdsO [(fstO (still (vcKb2_s0 T R W N O) (aSlice EO 27 (.slice (some (2, 0)) (d + 1) (.rest 4)) (some (.int .i64 (.ofNat 1))) none none (vcKb2_s0 T R W N O))), .slice (some (2, 4)) d (.rest 4))] ∧ Q (.normal, xFr [(1, .slice (some (15, 0)) d (.rest 4)), (12, Vo), (13, .int .i64 (.ofNat 0))] 183, vcKb2_s1 T R W N O W1)) =
  (tKb2 Vo d T R W N O W1).allY (fun r => Q (canR [1, 12, 13] [0, 1, 2, 3, 4, 5, 6, 7, 8, 9, 10, 11, 12, 13, 14, 15, 16, 17, 18, 19, 20, 21, 22, 23, 24, 25, 26, 27, 28, 29, 30, 31, 32, 33, 34, 35, 36, 37, 38, 39, 40, 41, 42, 43, 44, 45, 46, 47, 48, 49, 50, 51, 52, 53, 54, 55, 56, 57, 58, 59, 60, 61, 62, 63, 64, 65, 66, 67, 68, 69, 70, 71, 72, 73, 74, 75, 76, 77, 78, 79, 80, 81, 82, 83, 84, 85, 86, 87, 88, 89, 90, 91, 92, 93, 94, 95, 96, 97, 98, 99] r)) (.v (.slice (some (2, 0)) 0 (.rest 4), vcKb2_s0 T R W N O) (.v (.slice none 0 (.known 0), vcKb2_s0 T R W N O) (.v (.slice (some (2, 4)) d (.rest 4), vcKb2_s0 T R W N O) (.v (.slice (some (15, 0)) d (.rest 4), vcKb2_s1 T R W N O W1) .nil)))) := by kernel_rfl
noncomputable def vcKb3_s0 (T : AO) (R : AO) (W : AO) (N : AO) (O : AO) : ASt := mkSt [(0, T), (1, R), (2, W), (3, N), (4, O)] 15
noncomputable def vcKb3_s1 (T : AO) (R : AO) (W : AO) (N : AO) (O : AO) (W1 : AO) : ASt := mkSt [(0, T), (1, R), (2, W), (3, N), (4, O), (15, W1)] 16
theorem vcKb3 (Vo : AV) (a : Nat) (T : AO) (R : AO) (W : AO) (N : AO) (O : AO) (W1 : AO) (Q : Exit × AFr × ASt → Prop) :
  (still (vcKb3_s0 T R W N O) (aSlice EO 27 (.slice (some (2, 0)) (a + 1) (.rest 4)) none (some (.int .i64 (.ofNat a))) none (vcKb3_s0 T R W N O)) = some (.slice (some (2, 0)) a (.rest 4), vcKb3_s0 T R W N O) ∧ aBuiltinM EO .append [27, 27] [.slice none 0 (.known 0), .slice (some (2, 0)) a (.rest 4)] (vcKb3_s0 T R W N O) = some (.slice (some (15, 0)) a (.rest 4), vcKb3_s1 T R W N O W1) ∧ still (vcKb3_s1 T R W N O W1) (aSlice EO 27 (.slice (some (2, 0)) (a + 1) (.rest 4)) (some (.int .i64 (wrapF .i64 (.ofNat a + .ofNat 1)))) none none (vcKb3_s1 T R W N O W1)) = some (.slice0, vcKb3_s1 T R W N O W1) ∧ aBuiltinM EO .append [27, 27] [.slice (some (15, 0)) a (.rest 4), .slice0] (vcKb3_s1 T R W N O W1) = some (.slice (some (15, 0)) a (.rest 4), vcKb3_s1 T R W N O W1) ∧ holdsO [(fstO (still (vcKb3_s0 T R W N O) (aSlice EO 27 (.slice (some (2, 0)) (a + 1) (.rest 4)) (some (.int .i64 (wrapF .i64 (.ofNat a + .ofNat 1)))) none none (vcKb3_s0 T R W N O))), .slice0)] ∧ Q (.normal, xFr [(1, .slice (some (15, 0)) a (.rest 4)), (12, Vo), (13, .int .i64 (.ofNat 0))] 183, vcKb3_s1 T R W N O W1)) =
  (tKb3 Vo a T R W N O W1).allY (fun r => Q (canR [1, 12, 13] [0, 1, 2, 3, 4, 5, 6, 7, 8, 9, 10, 11, 12, 13, 14, 15, 16, 17, 18, 19, 20, 21, 22, 23, 24, 25, 26, 27, 28, 29, 30, 31, 32, 33, 34, 35, 36, 37, 38, 39, 40, 41, 42, 43, 44, 45, 46, 47, 48, 49, 50, 51, 52, 53, 54, 55, 56, 57, 58, 59, 60, 61, 62, 63, 64, 65, 66, 67, 68, 69, 70, 71, 72, 73, 74, 75, 76, 77, 78, 79, 80, 81, 82, 83, 84, 85, 86, 87, 88, 89, 90, 91, 92, 93, 94, 95, 96, 97, 98, 99] r)) (.v (.slice (some (2, 0)) a (.rest 4), vcKb3_s0 T R W N O) (.v (.slice (some (15, 0)) a (.rest 4), vcKb3_s1 T R W N O W1) (.v (.slice0, vcKb3_s1 T R W N O W1) (.v (.slice (some (15, 0)) a (.rest 4), vcKb3_s1 T R W N O W1) .nil)))) := by kernel_rfl
noncomputable def vcKb4_s0 (T : AO) (R : AO) (W : AO) (N : AO) (O : AO) : ASt := mkSt [(0, T), (1, R), (2, W), (3, N), (4, O)] 15
noncomputable def vcKb4_s1 (T : AO) (R : AO) (W : AO) (N : AO) (O : AO) (W2 : AO) : ASt := mkSt [(0, T), (1, R), (2, W), (3, N), (4, O), (15, W2)] 16
noncomputable def vcKb4_s2 (T : AO) (R : AO) (W : AO) (N : AO) (O : AO) (W1 : AO) : ASt := mkSt [(0, T), (1, R), (2, W), (3, N), (4, O), (15, .dead), (16, W1)] 17
theorem vcKb4 (Vo : AV) (a : Nat) (d : Nat) (T : AO) (R : AO) (W : AO) (N : AO) (O : AO) (W1 : AO) (W2 : AO) (Q : Exit × AFr × ASt → Prop) :
  (still (vcKb4_s0 T R W N O) (aSlice EO 27 (.slice (some (2, 0)) (a + d + 1) (.rest 4)) none (some (.int .i64 (.ofNat a))) none (vcKb4_s0 T R W N O)) = some (.slice (some (2, 0)) a (.rest 4), vcKb4_s0 T R W N O) ∧ aBuiltinM EO .append [27, 27] [.slice none 0 (.known 0), .slice (some (2, 0)) a (.rest 4)] (vcKb4_s0 T R W N O) = some (.slice (some (15, 0)) a (.rest 4), vcKb4_s1 T R W N O W2) ∧ still (vcKb4_s1 T R W N O W2) (aSlice EO 27 (.slice (some (2, 0)) (a + d + 1) (.rest 4)) (some (.int .i64 (wrapF .i64 (.ofNat a + .ofNat 1)))) none none (vcKb4_s1 T R W N O W2)) = some (.slice (some (2, (a + 1) * 4)) d (.rest 4), vcKb4_s1 T R W N O W2) ∧ aBuiltinM EO .append [27, 27] [.slice (some (15, 0)) a (.rest 4), .slice (some (2, (a + 1) * 4)) d (.rest 4)] (vcKb4_s1 T R W N O W2) = some (.slice (some (16, 0)) (a + d) (.rest 4), vcKb4_s2 T R W N O W1) ∧ holdsO [(fstO (still (vcKb4_s0 T R W N O) (aSlice EO 27 (.slice (some (2, 0)) (a + d + 1) (.rest 4)) (some (.int .i64 (wrapF .i64 (.ofNat a + .ofNat 1)))) none none (vcKb4_s0 T R W N O))), .slice (some (2, (a + 1) * 4)) d (.rest 4))] ∧ Q (.normal, xFr [(1, .slice (some (16, 0)) (a + d) (.rest 4)), (12, Vo), (13, .int .i64 (.ofNat 0))] 183, vcKb4_s2 T R W N O W1)) =
  (tKb4 Vo a d T R W N O W1 W2).allY (fun r => Q (canR [1, 12, 13] [0, 1, 2, 3, 4, 5, 6, 7, 8, 9, 10, 11, 12, 13, 14, 15, 16, 17, 18, 19, 20, 21, 22, 23, 24, 25, 26, 27, 28, 29, 30, 31, 32, 33, 34, 35, 36, 37, 38, 39, 40, 41, 42, 43, 44, 45, 46, 47, 48, 49, 50, 51, 52, 53, 54, 55, 56, 57, 58, 59, 60, 61, 62, 63, 64, 65, 66, 67, 68, 69, 70, 71, 72, 73, 74, 75, 76, 77, 78, 79, 80, 81, 82, 83, 84, 85, 86, 87, 88, 89, 90, 91, 92, 93, 94, 95, 96, 97, 98, 99] r)) (.v (.slice (some (2, 0)) a (.rest 4), vcKb4_s0 T R W N O) (.v (.slice (some (15, 0)) a (.rest 4), vcKb4_s1 T R W N O W2) (.v (.slice (some (2, (a + 1) * 4)) d (.rest 4), vcKb4_s1 T R W N O W2) (.v (.slice (some (16, 0)) (a + d) (.rest 4), vcKb4_s2 T R W N O W1) .nil)))) := by kernel_rfl
noncomputable def vcKe_s0 (T : AO) (N : AO) (O : AO) : ASt := mkSt [(0, T), (1, .dead), (2, .dead), (3, N), (4, O), (5, .dead), (6, .dead)] 7
theorem vcKe (q : CallT) (Vo : AV) (T : AO) (N : AO) (O : AO) (Q : Exit × AFr × ASt → Prop) :
  ((M EO (drawA EO) (smO q) 56).call 39 [Vo, .slice none 0 (.known 0)] (vcKe_s0 T N O) = some (.bool true, vcKe_s0 T N O) ∧ Q (.ret, xFr [(6, .slice none 0 (.known 0)), (7, .bool true)] 183, vcKe_s0 T N O)) =
  (tKe q Vo T N O).allY (fun r => Q (canR [6, 7] [0, 1, 2, 3, 4, 5, 6, 7, 8, 9, 10, 11, 12, 13, 14, 15, 16, 17, 18, 19, 20, 21, 22, 23, 24, 25, 26, 27, 28, 29, 30, 31, 32, 33, 34, 35, 36, 37, 38, 39, 40, 41, 42, 43, 44, 45, 46, 47, 48, 49, 50, 51, 52, 53, 54, 55, 56, 57, 58, 59, 60, 61, 62, 63, 64, 65, 66, 67, 68, 69, 70, 71, 72, 73, 74, 75, 76, 77, 78, 79, 80, 81, 82, 83, 84, 85, 86, 87, 88, 89, 90, 91, 92, 93, 94, 95, 96, 97, 98, 99] r)) (.v (.bool true, vcKe_s0 T N O) .nil) := by kernel_rfl
noncomputable def vcKi_s0 (T : AO) (N : AO) (O : AO) (W1 : AO) : ASt := mkSt [(0, T), (1, .dead), (2, .dead), (3, N), (4, O), (5, W1), (6, .dead)] 7
theorem vcKi (Vo : AV) (n : Nat) (T : AO) (N : AO) (O : AO) (W1 : AO) (Q : Exit × AFr × ASt → Prop) :
  (Q (.normal, xFr [(1, .slice (some (5, 0)) n (.rest 4)), (12, Vo), (13, .int .i64 (.ofNat 0)), (14, .slice none 0 (.known 0)), (15, .int .i64 (.ofNat 0))] 183, vcKi_s0 T N O W1)) =
  (tKi Vo n T N O W1).allY (fun r => Q (canR [1, 12, 13, 14, 15] [0, 1, 2, 3, 4, 5, 6, 7, 8, 9, 10, 11, 12, 13, 14, 15, 16, 17, 18, 19, 20, 21, 22, 23, 24, 25, 26, 27, 28, 29, 30, 31, 32, 33, 34, 35, 36, 37, 38, 39, 40, 41, 42, 43, 44, 45, 46, 47, 48, 49, 50, 51, 52, 53, 54, 55, 56, 57, 58, 59, 60, 61, 62, 63, 64, 65, 66, 67, 68, 69, 70, 71, 72, 73, 74, 75, 76, 77, 78, 79, 80, 81, 82, 83, 84, 85, 86, 87, 88, 89, 90, 91, 92, 93, 94, 95, 96, 97, 98, 99] r)) (.nil) := by kernel_rfl
noncomputable def vcKr_s0 (T : AO) (N : AO) (O : AO) (W1 : AO) (J : AO) : ASt := mkSt [(0, T), (1, .dead), (2, .dead), (3, N), (4, O), (5, W1), (6, J)] 7
theorem vcKr (q : CallT) (Vo : AV) (Vq : AV) (n : Nat) (i : Nat) (T : AO) (N : AO) (O : AO) (W1 : AO) (J : AO) (Q : Exit × AFr × ASt → Prop) :
  (ifB (ltF (.ofNat i) (.ofNat n)) (still (vcKr_s0 T N O W1 J) (aIndexAddr EO 27 (.slice (some (5, 0)) n (.rest 4)) (.int .i64 (.ofNat i))) = some (.ptr (some (5, i * 4)), vcKr_s0 T N O W1 J) ∧ aLoad EO 4 (.ptr (some (5, i * 4 + 3))) (vcKr_s0 T N O W1 J) = some (.bool true, vcKr_s0 T N O W1 J) ∧ Q (.normal, xFr [(1, .slice (some (5, 0)) n (.rest 4)), (12, Vo), (13, .int .i64 (.ofNat 0)), (14, Vq), (15, .int .i64 (wrapF .i64 (.ofNat i + .ofNat 1)))] 183, vcKr_s0 T N O W1 J)) (Q (.exit 1, xFr [(1, .slice (some (5, 0)) n (.rest 4)), (12, Vo), (13, .int .i64 (.ofNat 0)), (14, Vq), (15, .int .i64 (.ofNat i))] 183, vcKr_s0 T N O W1 J))) =
  (tKr q Vo Vq n i T N O W1 J).allY (fun r => Q (canR [1, 12, 13, 14, 15] [0, 1, 2, 3, 4, 5, 6, 7, 8, 9, 10, 11, 12, 13, 14, 15, 16, 17, 18, 19, 20, 21, 22, 23, 24, 25, 26, 27, 28, 29, 30, 31, 32, 33, 34, 35, 36, 37, 38, 39, 40, 41, 42, 43, 44, 45, 46, 47, 48, 49, 50, 51, 52, 53, 54, 55, 56, 57, 58, 59, 60, 61, 62, 63, 64, 65, 66, 67, 68, 69, 70, 71, 72, 73, 74, 75, 76, 77, 78, 79, 80, 81, 82, 83, 84, 85, 86, 87, 88, 89, 90, 91, 92, 93, 94, 95, 96, 97, 98, 99] r)) (.b (.v (.ptr (some (5, i * 4)), vcKr_s0 T N O W1 J) (.v (.bool true, vcKr_s0 T N O W1 J) .nil)) .nil) := by kernel_rfl
noncomputable def vcKs_s0 (T : AO) (N : AO) (O : AO) (W1 : AO) (J : AO) : ASt := mkSt [(0, T), (1, .dead), (2, .dead), (3, N), (4, O), (5, W1), (6, J)] 7
theorem vcKs (q : CallT) (Vo : AV) (Vq : AV) (n : Nat) (i : Nat) (T : AO) (N : AO) (O : AO) (W1 : AO) (J : AO) (Q : Exit × AFr × ASt → Prop) :
  (ifB (ltF (.ofNat i) (.ofNat n)) (still (vcKs_s0 T N O W1 J) (aIndexAddr EO 27 (.slice (some (5, 0)) n (.rest 4)) (.int .i64 (.ofNat i))) = some (.ptr (some (5, i * 4)), vcKs_s0 T N O W1 J) ∧ aLoad EO 4 (.ptr (some (5, i * 4 + 3))) (vcKs_s0 T N O W1 J) = some (.bool false, vcKs_s0 T N O W1 J) ∧ (M EO (drawA EO) (smO q) 55).call 38 [.slice (some (5, 0)) n (.rest 4), .int .i64 (.ofNat i)] (vcKs_s0 T N O W1 J) = some (.bool false, vcKs_s0 T N O W1 J) ∧ Q (.normal, xFr [(1, .slice (some (5, 0)) n (.rest 4)), (12, Vo), (13, .int .i64 (.ofNat 0)), (14, Vq), (15, .int .i64 (wrapF .i64 (.ofNat i + .ofNat 1)))] 183, vcKs_s0 T N O W1 J)) (Q (.exit 1, xFr [(1, .slice (some (5, 0)) n (.rest 4)), (12, Vo), (13, .int .i64 (.ofNat 0)), (14, Vq), (15, .int .i64 (.ofNat i))] 183, vcKs_s0 T N O W1 J))) =
  (tKs q Vo Vq n i T N O W1 J).allY (fun r => Q (canR [1, 12, 13, 14, 15] [0, 1, 2, 3, 4, 5, 6, 7, 8, 9, 10, 11, 12, 13, 14, 15, 16, 17, 18, 19, 20, 21, 22, 23, 24, 25, 26, 27, 28, 29, 30, 31, 32, 33, 34, 35, 36, 37, 38, 39, 40, 41, 42, 43, 44, 45, 46, 47, 48, 49, 50, 51, 52, 53, 54, 55, 56, 57, 58, 59, 60, 61, 62, 63, 64, 65, 66, 67, 68, 69, 70, 71, 72, 73, 74, 75, 76, 77, 78, 79, 80, 81, 82, 83, 84, 85, 86, 87, 88, 89, 90, 91, 92, 93, 94, 95, 96, 97, 98, 99] r)) (.b (.v (.ptr (some (5, i * 4)), vcKs_s0 T N O W1 J) (.v (.bool false, vcKs_s0 T N O W1 J) (.v (.bool false, vcKs_s0 T N O W1 J) .nil))) .nil) := by kernel_rfl
noncomputable def vcKt_s0 (T : AO) (N : AO) (O : AO) (W1 : AO) (J : AO) : ASt := mkSt [(0, T), (1, .dead), (2, .dead), (3, N), (4, O), (5, W1), (6, J)] 7
noncomputable def vcKt_s1 (T : AO) (N : AO) (O : AO) (W2 : AO) (J : AO) : ASt := mkSt [(0, T), (1, .dead), (2, .dead), (3, N), (4, O), (5, W2), (6, J)] 7
noncomputable def vcKt_s2 (a : Int) (T : AO) (N : AO) (O : AO) (W2 : AO) (J : AO) : ASt := mkSt [(0, T), (1, .dead), (2, .dead), (3, N), (4, O), (5, W2), (6, J), (7, .cells [.int .u64 a] true)] 8
noncomputable def vcKt_s3 (a : Int) (T : AO) (N : AO) (O : AO) (W2 : AO) (Q1 : AO) : ASt := mkSt [(0, T), (1, .dead), (2, .dead), (3, N), (4, O), (5, W2), (6, .dead), (7, .cells [.int .u64 a] true), (8, Q1)] 9
theorem vcKt (q : CallT) (Vo : AV) (Vq : AV) (n : Nat) (i : Nat) (k : Nat) (a : Int) (T : AO) (N : AO) (O : AO) (W1 : AO) (W2 : AO) (J : AO) (Q1 : AO) (Q : Exit × AFr × ASt → Prop) :
  (ifB (ltF (.ofNat i) (.ofNat n)) (still (vcKt_s0 T N O W1 J) (aIndexAddr EO 27 (.slice (some (5, 0)) n (.rest 4)) (.int .i64 (.ofNat i))) = some (.ptr (some (5, i * 4)), vcKt_s0 T N O W1 J) ∧ aLoad EO 4 (.ptr (some (5, i * 4 + 3))) (vcKt_s0 T N O W1 J) = some (.bool false, vcKt_s0 T N O W1 J) ∧ (M EO (drawA EO) (smO q) 55).call 38 [.slice (some (5, 0)) n (.rest 4), .int .i64 (.ofNat i)] (vcKt_s0 T N O W1 J) = some (.bool true, vcKt_s0 T N O W1 J) ∧ still (vcKt_s0 T N O W1 J) (aIndexAddr EO 27 (.slice (some (5, 0)) n (.rest 4)) (.int .i64 (.ofNat i))) = some (.ptr (some (5, i * 4)), vcKt_s0 T N O W1 J) ∧ Option.map (fun s => (undefA, s)) (aStore EO 4 (.ptr (some (5, i * 4 + 3))) (.bool true) (vcKt_s0 T N O W1 J)) = some (.tuple [], vcKt_s1 T N O W2 J) ∧ still (vcKt_s1 T N O W2 J) (aIndexAddr EO 27 (.slice (some (5, 0)) n (.rest 4)) (.int .i64 (.ofNat i))) = some (.ptr (some (5, i * 4)), vcKt_s1 T N O W2 J) ∧ aLoad EO 30 (.ptr (some (5, i * 4 + 0))) (vcKt_s1 T N O W2 J) = some (.int .u64 a, vcKt_s1 T N O W2 J) ∧ aBuiltinM EO .append [42, 42] [Vq, .slice (some (7, 0)) 1 (.known 1)] (vcKt_s2 a T N O W2 J) = some (.slice (some (8, 0)) (k + 1) (.rest 1), vcKt_s3 a T N O W2 Q1) ∧ Q (.normal, xFr [(1, .slice (some (5, 0)) n (.rest 4)), (12, Vo), (13, .int .i64 (.ofNat 0)), (14, .slice (some (8, 0)) (k + 1) (.rest 1)), (15, .int .i64 (wrapF .i64 (.ofNat i + .ofNat 1)))] 183, vcKt_s3 a T N O W2 Q1)) (Q (.exit 1, xFr [(1, .slice (some (5, 0)) n (.rest 4)), (12, Vo), (13, .int .i64 (.ofNat 0)), (14, Vq), (15, .int .i64 (.ofNat i))] 183, vcKt_s0 T N O W1 J))) =
  (tKt q Vo Vq n i k a T N O W1 W2 J Q1).allY (fun r => Q (canR [1, 12, 13, 14, 15] [0, 1, 2, 3, 4, 5, 6, 7, 8, 9, 10, 11, 12, 13, 14, 15, 16, 17, 18, 19, 20, 21, 22, 23, 24, 25, 26, 27, 28, 29, 30, 31, 32, 33, 34, 35, 36, 37, 38, 39, 40, 41, 42, 43, 44, 45, 46, 47, 48, 49, 50, 51, 52, 53, 54, 55, 56, 57, 58, 59, 60, 61, 62, 63, 64, 65, 66, 67, 68, 69, 70, 71, 72, 73, 74, 75, 76, 77, 78, 79, 80, 81, 82, 83, 84, 85, 86, 87, 88, 89, 90, 91, 92, 93, 94, 95, 96, 97, 98, 99] r)) (.b (.v (.ptr (some (5, i * 4)), vcKt_s0 T N O W1 J) (.v (.bool false, vcKt_s0 T N O W1 J) (.v (.bool true, vcKt_s0 T N O W1 J) (.v (.ptr (some (5, i * 4)), vcKt_s0 T N O W1 J) (.v (.tuple [], vcKt_s1 T N O W2 J) (.v (.ptr (some (5, i * 4)), vcKt_s1 T N O W2 J) (.v (.int .u64 a, vcKt_s1 T N O W2 J) (.v (.slice (some (8, 0)) (k + 1) (.rest 1), vcKt_s3 a T N O W2 Q1) .nil)))))))) .nil) := by kernel_rfl
noncomputable def vcKz_s0 (T : AO) (N : AO) (O : AO) (W1 : AO) (J : AO) : ASt := mkSt [(0, T), (1, .dead), (2, .dead), (3, N), (4, O), (5, W1), (6, J)] 7
theorem vcKz (q : CallT) (Vo : AV) (Vq : AV) (n : Nat) (T : AO) (N : AO) (O : AO) (W1 : AO) (J : AO) (Q : Exit × AFr × ASt → Prop) :
  ((M EO (drawA EO) (smO q) 58).call 39 [Vo, Vq] (vcKz_s0 T N O W1 J) = some (.bool true, vcKz_s0 T N O W1 J) ∧ Q (.ret, xFr [(6, .slice (some (5, 0)) n (.rest 4)), (7, .bool true)] 183, vcKz_s0 T N O W1 J)) =
  (tKz q Vo Vq n T N O W1 J).allY (fun r => Q (canR [6, 7] [0, 1, 2, 3, 4, 5, 6, 7, 8, 9, 10, 11, 12, 13, 14, 15, 16, 17, 18, 19, 20, 21, 22, 23, 24, 25, 26, 27, 28, 29, 30, 31, 32, 33, 34, 35, 36, 37, 38, 39, 40, 41, 42, 43, 44, 45, 46, 47, 48, 49, 50, 51, 52, 53, 54, 55, 56, 57, 58, 59, 60, 61, 62, 63, 64, 65, 66, 67, 68, 69, 70, 71, 72, 73, 74, 75, 76, 77, 78, 79, 80, 81, 82, 83, 84, 85, 86, 87, 88, 89, 90, 91, 92, 93, 94, 95, 96, 97, 98, 99] r)) (.v (.bool true, vcKz_s0 T N O W1 J) .nil) := by kernel_rfl
noncomputable def vcCe_s0 (m : Int) (b : Int) (w : Bool) (T : AO) (R : AO) : ASt := mkSt [(0, T), (1, R), (2, .dead), (3, .cells [.int .i64 (.ofNat 3), .int .u64 m, .int .i64 b, .bool w] true)] 4
noncomputable def vcCe_s1 (m : Int) (b : Int) (w : Bool) (T1 : AO) (R1 : AO) : ASt := mkSt [(0, T1), (1, R1), (2, .dead), (3, .cells [.int .i64 (.ofNat 3), .int .u64 m, .int .i64 b, .bool w] true)] 44
theorem vcCe (q : CallT) (V : AV) (m : Int) (b : Int) (z : Int) (w : Bool) (T : AO) (R : AO) (T1 : AO) (R1 : AO) (Q : Exit × AFr × ASt → Prop) :
  ((M EO (drawA EO) (smO q) 57).call 37 [.slice none 0 (.known 0), .int .u64 m] (vcCe_s0 m b w T R) = some (.int .i64 z, vcCe_s0 m b w T R) ∧ (M EO (drawA EO) (smO q) 47).call 14 [.ptr (some (0, 0))] (vcCe_s0 m b w T R) = some (.slice none 0 (.known 0), vcCe_s1 m b w T1 R1) ∧ (M EO (drawA EO) (smO q) 44).call 39 [.slice none 0 (.known 0), .slice none 0 (.known 0)] (vcCe_s1 m b w T1 R1) = some (.bool true, vcCe_s1 m b w T1 R1) ∧ Q (.ret, xFr [(6, .slice none 0 (.known 0)), (7, .bool true)] 183, vcCe_s1 m b w T1 R1)) =
  (tCe q V m b z w T R T1 R1).allY (fun r => Q (canR [6, 7] [0, 1, 2, 3, 4, 5, 6, 7, 8, 9, 10, 11, 12, 13, 14, 15, 16, 17, 18, 19, 20, 21, 22, 23, 24, 25, 26, 27, 28, 29, 30, 31, 32, 33, 34, 35, 36, 37, 38, 39, 40, 41, 42, 43, 44, 45, 46, 47, 48, 49, 50, 51, 52, 53, 54, 55, 56, 57, 58, 59, 60, 61, 62, 63, 64, 65, 66, 67, 68, 69, 70, 71, 72, 73, 74, 75, 76, 77, 78, 79, 80, 81, 82, 83, 84, 85, 86, 87, 88, 89, 90, 91, 92, 93, 94, 95, 96, 97, 98, 99] r)) (.v (.int .i64 z, vcCe_s0 m b w T R) (.v (.slice none 0 (.known 0), vcCe_s1 m b w T1 R1) (.v (.bool true, vcCe_s1 m b w T1 R1) .nil))) := by kernel_rfl
noncomputable def vcCa_s0 (kd : Int) (m : Int) (b : Int) (w : Bool) (T : AO) (R : AO) (W : AO) : ASt := mkSt [(0, T), (1, R), (2, W), (3, .cells [.int .i64 kd, .int .u64 m, .int .i64 b, .bool w] true)] 4
noncomputable def vcCa_s1 (kd : Int) (m : Int) (b : Int) (w : Bool) (W : AO) (T1 : AO) (R1 : AO) (O : AO) : ASt := mkSt [(0, T1), (1, R1), (2, W), (3, .cells [.int .i64 kd, .int .u64 m, .int .i64 b, .bool w] true), (6, O)] 44
theorem vcCa (q : CallT) (V : AV) (Vo : AV) (kd : Int) (m : Int) (b : Int) (z : Int) (w : Bool) (T : AO) (R : AO) (W : AO) (T1 : AO) (R1 : AO) (O : AO) (Q : Exit × AFr × ASt → Prop) :
  ((M EO (drawA EO) (smO q) 58).call 14 [.ptr (some (0, 0))] (vcCa_s0 kd m b w T R W) = some (Vo, vcCa_s1 kd m b w W T1 R1 O) ∧ Q (.normal, xFr [(1, V), (16, Vo), (17, .slice none 0 (.known 0))] 183, vcCa_s1 kd m b w W T1 R1 O)) =
  (tCa q V Vo kd m b z w T R W T1 R1 O).allY (fun r => Q (canR [1, 16, 17] [0, 1, 2, 3, 4, 5, 6, 7, 8, 9, 10, 11, 12, 13, 14, 15, 16, 17, 18, 19, 20, 21, 22, 23, 24, 25, 26, 27, 28, 29, 30, 31, 32, 33, 34, 35, 36, 37, 38, 39, 40, 41, 42, 43, 44, 45, 46, 47, 48, 49, 50, 51, 52, 53, 54, 55, 56, 57, 58, 59, 60, 61, 62, 63, 64, 65, 66, 67, 68, 69, 70, 71, 72, 73, 74, 75, 76, 77, 78, 79, 80, 81, 82, 83, 84, 85, 86, 87, 88, 89, 90, 91, 92, 93, 94, 95, 96, 97, 98, 99] r)) (.v (Vo, vcCa_s1 kd m b w W T1 R1 O) .nil) := by kernel_rfl
noncomputable def vcCi_s0 (T : AO) (W : AO) (O : AO) : ASt := mkSt [(0, T), (1, .dead), (2, W), (3, O), (4, .dead)] 5
theorem vcCi (Vo : AV) (n : Nat) (T : AO) (W : AO) (O : AO) (Q : Exit × AFr × ASt → Prop) :
  (Q (.normal, xFr [(1, .slice (some (2, 0)) n (.rest 4)), (16, Vo), (17, .slice none 0 (.known 0)), (18, .int .i64 (.ofNat 0))] 183, vcCi_s0 T W O)) =
  (tCi Vo n T W O).allY (fun r => Q (canR [1, 16, 17, 18] [0, 1, 2, 3, 4, 5, 6, 7, 8, 9, 10, 11, 12, 13, 14, 15, 16, 17, 18, 19, 20, 21, 22, 23, 24, 25, 26, 27, 28, 29, 30, 31, 32, 33, 34, 35, 36, 37, 38, 39, 40, 41, 42, 43, 44, 45, 46, 47, 48, 49, 50, 51, 52, 53, 54, 55, 56, 57, 58, 59, 60, 61, 62, 63, 64, 65, 66, 67, 68, 69, 70, 71, 72, 73, 74, 75, 76, 77, 78, 79, 80, 81, 82, 83, 84, 85, 86, 87, 88, 89, 90, 91, 92, 93, 94, 95, 96, 97, 98, 99] r)) (.nil) := by kernel_rfl
noncomputable def vcCr_s0 (T : AO) (W : AO) (O : AO) (J : AO) : ASt := mkSt [(0, T), (1, .dead), (2, W), (3, O), (4, J)] 5
noncomputable def vcCr_s1 (a : Int) (T : AO) (W : AO) (O : AO) (J : AO) : ASt := mkSt [(0, T), (1, .dead), (2, W), (3, O), (4, J), (5, .cells [.int .u64 a] true)] 6
noncomputable def vcCr_s2 (a : Int) (T : AO) (W : AO) (O : AO) (Q1 : AO) : ASt := mkSt [(0, T), (1, .dead), (2, W), (3, O), (4, .dead), (5, .cells [.int .u64 a] true), (6, Q1)] 7
theorem vcCr (Vo : AV) (Vq : AV) (n : Nat) (i : Nat) (k : Nat) (a : Int) (T : AO) (W : AO) (O : AO) (J : AO) (Q1 : AO) (Q : Exit × AFr × ASt → Prop) :
  (ifB (ltF (.ofNat i) (.ofNat n)) (still (vcCr_s0 T W O J) (aIndexAddr EO 27 (.slice (some (2, 0)) n (.rest 4)) (.int .i64 (.ofNat i))) = some (.ptr (some (2, i * 4)), vcCr_s0 T W O J) ∧ aLoad EO 30 (.ptr (some (2, i * 4 + 0))) (vcCr_s0 T W O J) = some (.int .u64 a, vcCr_s0 T W O J) ∧ aBuiltinM EO .append [42, 42] [Vq, .slice (some (5, 0)) 1 (.known 1)] (vcCr_s1 a T W O J) = some (.slice (some (6, 0)) (k + 1) (.rest 1), vcCr_s2 a T W O Q1) ∧ Q (.normal, xFr [(1, .slice (some (2, 0)) n (.rest 4)), (16, Vo), (17, .slice (some (6, 0)) (k + 1) (.rest 1)), (18, .int .i64 (wrapF .i64 (.ofNat i + .ofNat 1)))] 183, vcCr_s2 a T W O Q1)) (Q (.exit 3, xFr [(1, .slice (some (2, 0)) n (.rest 4)), (16, Vo), (17, Vq), (18, .int .i64 (.ofNat i))] 183, vcCr_s0 T W O J))) =
  (tCr Vo Vq n i k a T W O J Q1).allY (fun r => Q (canR [1, 16, 17, 18] [0, 1, 2, 3, 4, 5, 6, 7, 8, 9, 10, 11, 12, 13, 14, 15, 16, 17, 18, 19, 20, 21, 22, 23, 24, 25, 26, 27, 28, 29, 30, 31, 32, 33, 34, 35, 36, 37, 38, 39, 40, 41, 42, 43, 44, 45, 46, 47, 48, 49, 50, 51, 52, 53, 54, 55, 56, 57, 58, 59, 60, 61, 62, 63, 64, 65, 66, 67, 68, 69, 70, 71, 72, 73, 74, 75, 76, 77, 78, 79, 80, 81, 82, 83, 84, 85, 86, 87, 88, 89, 90, 91, 92, 93, 94, 95, 96, 97, 98, 99] r)) (.b (.v (.ptr (some (2, i * 4)), vcCr_s0 T W O J) (.v (.int .u64 a, vcCr_s0 T W O J) (.v (.slice (some (6, 0)) (k + 1) (.rest 1), vcCr_s2 a T W O Q1) .nil))) .nil) := by kernel_rfl
noncomputable def vcCz_s0 (T : AO) (W : AO) (O : AO) (J : AO) : ASt := mkSt [(0, T), (1, .dead), (2, W), (3, O), (4, J)] 5
theorem vcCz (q : CallT) (Vo : AV) (Vq : AV) (n : Nat) (T : AO) (W : AO) (O : AO) (J : AO) (Q : Exit × AFr × ASt → Prop) :
  ((M EO (drawA EO) (smO q) 58).call 39 [Vo, Vq] (vcCz_s0 T W O J) = some (.bool true, vcCz_s0 T W O J) ∧ Q (.ret, xFr [(6, .slice none 0 (.known 0)), (7, .bool true)] 183, vcCz_s0 T W O J)) =
  (tCz q Vo Vq n T W O J).allY (fun r => Q (canR [6, 7] [0, 1, 2, 3, 4, 5, 6, 7, 8, 9, 10, 11, 12, 13, 14, 15, 16, 17, 18, 19, 20, 21, 22, 23, 24, 25, 26, 27, 28, 29, 30, 31, 32, 33, 34, 35, 36, 37, 38, 39, 40, 41, 42, 43, 44, 45, 46, 47, 48, 49, 50, 51, 52, 53, 54, 55, 56, 57, 58, 59, 60, 61, 62, 63, 64, 65, 66, 67, 68, 69, 70, 71, 72, 73, 74, 75, 76, 77, 78, 79, 80, 81, 82, 83, 84, 85, 86, 87, 88, 89, 90, 91, 92, 93, 94, 95, 96, 97, 98, 99] r)) (.v (.bool true, vcCz_s0 T W O J) .nil) := by kernel_rfl
end Go.Proofs.Ytelehjeifhelnaa.ovp
end

section
open Go Go.Ax Go.Proofs
namespace Go.Proofs.Ytelehjeifhelnaa.ovp
set_option linter.unusedVariables false
noncomputable def M2 (V : AV) (R : AO) : ASt := mkSt [(0, tob V), (1, R)] 2
def zeroA : AV := .slice (some (1, 0)) 0 (.known 0)
def zeroO : AO := .cells [] true
noncomputable def tEc (q : CallT) (m b : Int) (w : Bool) (R N : AO) : Tr (AV × ASt) := (TM EC (smC q) flC fl0 60).call 12 [.ptr (some (0, 0)), .int .u64 m, .int .i64 b, .bool w] (M2 zeroA R)
noncomputable def tEd (q : CallT) (V : AV) (m : Int) (R : AO) : Tr (AV × ASt) := (TM ED (smD q) ((13, ⟨[], [14, 22, 26], [], []⟩) :: flD) fl0 60).call 13 [p0, .int .u64 m] (M2 V R)
noncomputable def tEk : Tr (AV × ASt) := (TM ED noSum [] fl0 60).call 14 [p0] (M2 nilA .dead)
noncomputable def tEl : Tr (AV × ASt) := (TM ED noSum [] fl0 60).call 14 [p0] (M2 zeroA zeroO)
noncomputable def tEm (w : Bool) : Tr (AV × ASt) := (TM ED noSum [] fl0 60).call 48 [p0, .bool w] (M2 nilA .dead)
noncomputable def tEn (w : Bool) : Tr (AV × ASt) := (TM ED noSum [] fl0 60).call 48 [p0, .bool w] (M2 zeroA zeroO)
noncomputable def tEo (w : Bool) (R : AO) : Tr (AV × ASt) := (TM ED noSum [] fl0 60).call 48 [p0, .bool w] (M2 (slT 0) R)
noncomputable def vcEc_s0 (R : AO) : ASt := mkSt [(0, .cells [.bool true, .slice (some (1, 0)) 0 (.known 0)] true), (1, R)] 2
noncomputable def vcEc_s1 (m : Int) (R : AO) : ASt := mkSt [(0, .cells [.bool true, .slice (some (1, 0)) 0 (.known 0)] true), (1, R), (2, .cells [.int .u64 m] true)] 3
noncomputable def vcEc_s2 (m : Int) (b : Int) (w : Bool) (R : AO) : ASt := mkSt [(0, .cells [.bool true, .slice (some (1, 0)) 0 (.known 0)] true), (1, R), (2, .cells [.int .u64 m] true), (3, .cells [.int .u64 m, .int .i64 (bif ltF b (Int.negSucc 0) then Int.negSucc 0 else b), .bool w, .bool false] true)] 14
noncomputable def vcEc_s3 (m : Int) (b : Int) (w : Bool) (R : AO) : ASt := mkSt [(0, .cells [.bool true, .slice (some (1, 0)) 0 (.known 0)] true), (1, R), (2, .cells [.int .u64 m] true), (3, .cells [.int .u64 m, .int .i64 (bif ltF b (Int.negSucc 0) then Int.negSucc 0 else b), .bool w, .bool true] true)] 26
noncomputable def vcEc_s4 (m : Int) (b : Int) (w : Bool) (R : AO) : ASt := mkSt [(0, .cells [.bool true, .slice (some (1, 0)) 0 (.known 0)] true), (1, R), (2, .cells [.int .u64 m] true), (3, .cells [.int .u64 m, .int .i64 (bif ltF b (Int.negSucc 0) then Int.negSucc 0 else b), .bool w, .bool true] true), (21, .cells [.int .u64 m, .int .i64 (bif ltF b (Int.negSucc 0) then Int.negSucc 0 else b), .bool w, .bool true] true)] 26
noncomputable def vcEc_s5 (m : Int) (b : Int) (w : Bool) (R : AO) (N : AO) : ASt := mkSt [(0, .cells [.bool true, .slice (some (1, 0)) 0 (.known 0)] true), (1, R), (2, .cells [.int .u64 m] true), (3, .cells [.int .u64 m, .int .i64 (bif ltF b (Int.negSucc 0) then Int.negSucc 0 else b), .bool w, .bool true] true), (21, .cells [.int .u64 m, .int .i64 (bif ltF b (Int.negSucc 0) then Int.negSucc 0 else b), .bool w, .bool true] true), (26, N)] 27
noncomputable def vcEc_s6 (m : Int) (b : Int) (w : Bool) (R : AO) (N : AO) : ASt := mkSt [(0, .cells [.bool true, .slice (some (26, 0)) 1 (.rest 4)] true), (1, R), (2, .cells [.int .u64 m] true), (3, .cells [.int .u64 m, .int .i64 (bif ltF b (Int.negSucc 0) then Int.negSucc 0 else b), .bool w, .bool true] true), (21, .cells [.int .u64 m, .int .i64 (bif ltF b (Int.negSucc 0) then Int.negSucc 0 else b), .bool w, .bool true] true), (26, N)] 27
theorem vcEc (q : CallT) (m : Int) (b : Int) (w : Bool) (R : AO) (N : AO) (Q : AV × ASt → Prop) :
  (ifB (!ltF b (.ofNat 64)) (Q (.tuple [.bool false, .int .i64 (.ofNat 2)], vcEc_s0 R)) ((M EC (drawA EC) (smC q) 46).call 65 [.slice (some (1, 0)) 0 (.known 0), .clos 66 [.ptr (some (2, 0))]] (vcEc_s1 m R) = some (.int .i64 (Int.negSucc 0), vcEc_s1 m R) ∧ (M EC (drawA EC) (smC q) 54).call 44 [.slice (some (1, 0)) 0 (.known 0), .bound 45 [.agg [.int .u64 m, .int .i64 (bif ltF b (Int.negSucc 0) then Int.negSucc 0 else b), .bool w, .bool false]] []] (vcEc_s2 m b w R) = some (.bool false, vcEc_s2 m b w R) ∧ holdsO [] ∧ still (vcEc_s3 m b w R) (aSlice EC 35 (.slice (some (1, 0)) 0 (.known 0)) none (some (.int .i64 (.ofNat 0))) (some (.int .i64 (.ofNat 0))) (vcEc_s3 m b w R)) = some (.slice (some (1, 0)) 0 (.known 0), vcEc_s3 m b w R) ∧ aBuiltinM EC .append [35, 35] [.slice (some (1, 0)) 0 (.known 0), .slice (some (21, 0)) 1 (.known 1)] (vcEc_s4 m b w R) = some (.slice (some (26, 0)) 1 (.rest 4), vcEc_s5 m b w R N) ∧ holdsO [(some (.agg [.int .u64 m, .int .i64 (bif ltF b (Int.negSucc 0) then Int.negSucc 0 else b), .bool w, .bool true]), .agg [.int .u64 m, .int .i64 (bif ltF b (Int.negSucc 0) then Int.negSucc 0 else b), .bool w, .bool true])] ∧ Q (.tuple [.bool true, .int .i64 (.ofNat 0)], vcEc_s6 m b w R N))) =
  (tEc q m b w R N).allY (fun r => Q (r.1, canS [0, 1, 2, 3, 4, 5, 6, 7, 8, 9, 10, 11, 12, 13, 14, 15, 16, 17, 18, 19, 20, 21, 22, 23, 24, 25, 26, 27, 28, 29, 30, 31, 32, 33, 34, 35, 36, 37, 38, 39] r.2)) (.b .nil (.v (.int .i64 (Int.negSucc 0), vcEc_s1 m R) (.b .nil (.v (.bool false, vcEc_s2 m b w R) (.v (.slice (some (1, 0)) 0 (.known 0), vcEc_s3 m b w R) (.v (.slice (some (26, 0)) 1 (.rest 4), vcEc_s5 m b w R N) .nil)))))) := by kernel_rfl
noncomputable def vcEd_s0 (V : AV) (m : Int) (R : AO) : ASt := mkSt [(0, .cells [.bool true, V] true), (1, R), (2, .cells [.int .u64 m] true)] 3
theorem vcEd (q : CallT) (V : AV) (m : Int) (R : AO) (Q : AV × ASt → Prop) :
  ((M ED (drawA ED) (smD q) 51).call 65 [V, .clos 66 [.ptr (some (2, 0))]] (vcEd_s0 V m R) = some (.int .i64 (Int.negSucc 0), vcEd_s0 V m R) ∧ Q (.tuple [.slice none 0 (.known 0), .int .i64 (.ofNat 6)], vcEd_s0 V m R)) =
  (tEd q V m R).allY (fun r => Q (r.1, canS [0, 1, 2, 3, 4, 5, 6, 7, 8, 9, 10, 11, 12, 13, 14, 15, 16, 17, 18, 19, 20, 21, 22, 23, 24, 25, 26, 27, 28, 29, 30, 31, 32, 33, 34, 35, 36, 37, 38, 39] r.2)) (.v (.int .i64 (Int.negSucc 0), vcEd_s0 V m R) .nil) := by kernel_rfl
noncomputable def vcEk_s0  : ASt := mkSt [(0, .cells [.bool true, .slice none 0 (.known 0)] true), (1, .dead)] 2
theorem vcEk  (Q : AV × ASt → Prop) :
  (Q (.slice none 0 (.known 0), vcEk_s0 )) =
  (tEk ).allY (fun r => Q (r.1, canS [0, 1, 2, 3, 4, 5, 6, 7, 8, 9, 10, 11, 12, 13, 14, 15, 16, 17, 18, 19, 20, 21, 22, 23, 24, 25, 26, 27, 28, 29, 30, 31, 32, 33, 34, 35, 36, 37, 38, 39] r.2)) (.nil) := by kernel_rfl
noncomputable def vcEl_s0  : ASt := mkSt [(0, .cells [.bool true, .slice none 0 (.known 0)] true), (1, .cells [] true)] 2
theorem vcEl  (Q : AV × ASt → Prop) :
  (Q (.slice none 0 (.known 0), vcEl_s0 )) =
  (tEl ).allY (fun r => Q (r.1, canS [0, 1, 2, 3, 4, 5, 6, 7, 8, 9, 10, 11, 12, 13, 14, 15, 16, 17, 18, 19, 20, 21, 22, 23, 24, 25, 26, 27, 28, 29, 30, 31, 32, 33, 34, 35, 36, 37, 38, 39] r.2)) (.nil) := by kernel_rfl
noncomputable def vcEm_s0 : ASt := mkSt [(0, .cells [.bool true, .slice none 0 (.known 0)] true), (1, .dead)] 2
theorem vcEm (w : Bool) (Q : AV × ASt → Prop) :
  (Q (.slice none 0 (.known 0), vcEm_s0)) =
  (tEm w).allY (fun r => Q (r.1, canS [0, 1, 2, 3, 4, 5, 6, 7, 8, 9, 10, 11, 12, 13, 14, 15, 16, 17, 18, 19, 20, 21, 22, 23, 24, 25, 26, 27, 28, 29, 30, 31, 32, 33, 34, 35, 36, 37, 38, 39] r.2)) (.nil) := by kernel_rfl
noncomputable def vcEn_s0 : ASt := mkSt [(0, .cells [.bool true, .slice (some (1, 0)) 0 (.known 0)] true), (1, .cells [] true)] 2
theorem vcEn (w : Bool) (Q : AV × ASt → Prop) :
  (Q (.slice none 0 (.known 0), vcEn_s0)) =
  (tEn w).allY (fun r => Q (r.1, canS [0, 1, 2, 3, 4, 5, 6, 7, 8, 9, 10, 11, 12, 13, 14, 15, 16, 17, 18, 19, 20, 21, 22, 23, 24, 25, 26, 27, 28, 29, 30, 31, 32, 33, 34, 35, 36, 37, 38, 39] r.2)) (.nil) := by kernel_rfl
noncomputable def vcEo_s0 (R : AO) : ASt := mkSt [(0, .cells [.bool true, .slice (some (1, 0)) 0 (.rest 4)] true), (1, R)] 2
theorem vcEo (w : Bool) (R : AO) (Q : AV × ASt → Prop) :
  (Q (.slice none 0 (.known 0), vcEo_s0 R)) =
  (tEo w R).allY (fun r => Q (r.1, canS [0, 1, 2, 3, 4, 5, 6, 7, 8, 9, 10, 11, 12, 13, 14, 15, 16, 17, 18, 19, 20, 21, 22, 23, 24, 25, 26, 27, 28, 29, 30, 31, 32, 33, 34, 35, 36, 37, 38, 39] r.2)) (.nil) := by kernel_rfl
end Go.Proofs.Ytelehjeifhelnaa.ovp
end

section
open Go Go.Ax Go.Proofs
namespace Go.Proofs.Ytelehjeifhelnaa.ovp
set_option linter.unusedVariables false
def KO9 : List Nat := [0, 1, 2, 3, 4, 5, 6, 7, 8, 9, 10, 11, 12, 13, 14, 15, 16, 17, 18, 19, 20, 21, 22, 23, 24, 25, 26, 27, 28, 29, 30, 31, 32, 33, 34, 35, 36, 37, 38, 39]
inductive TabV (k : Nat) : List RQ → AV → AO → Prop
  | row {l : List RQ} {R : List AV} (h : RowR R l) : TabV k l (slW k l.length) (.cells R true)
  | nil : TabV k [] nilA .dead
  | zero : TabV k [] (.slice (some (k, 0)) 0 (.known 0)) (.cells [] true)
section
variable {l : List RQ} {m b : Int} {w : Bool} {R cs : List AV} {f n : Nat} {c : Cap} {args : List AV} {Q1 : AV × ASt → Prop} {W A T1 R1 : AO} {ot : List (Nat × AO)} {v : AV}
noncomputable def S4m (V : AV) (R W A : AO) : ASt := mkSt [(0, tob V), (1, R), (2, W), (3, A)] 4
theorem get4 {o0 o1 o2 o3 : AO} : ∀ j, (mkSt [(0, o0), (1, o1), (2, o2), (3, o3)] 4).h.get j = if j = 3 then some o3 else if j = 2 then some o2 else if j = 1 then some o1 else if j = 0 then some o0 else none := fun j => by
  show (((((T.e : T AO).set D 0 _).set D 1 _).set D 2 _).set D 3 _).get j = _
  rw [T.get_set, T.get_set, T.get_set, T.get_set, T.get_e]
theorem tab2_same (hcs : ∀ x, x ∈ cs → refsV 0 x)
    (hrun : ∀ B w0 ι W args', (∀ i, ¬ B.rs i) → SR B w0 ι (M2 (.slice (some (1, 0)) n c) (.cells cs true)) W → VRs ι args args' → (callFunc f args').run Try.prog W = .ok (.enter f args') W ∧ CallsIn Fence.wide 0 Try.prog f args' W fun e w' => ∃ v, Q1 v ∧ Post B w0 ι v e w')
    (hargs : ∀ v, v ∈ args → renV (List.range 2) v = some v)
    (hb : ∀ q, Q1 q → BackV (gK 2 4) q.1 v ∧ q.2.next ≤ 40 ∧ (T1.own = true ∧ ∃ a, q.2.h.get 0 = some a ∧ BackO (gK 2 4) a T1) ∧ (R1 = .dead ∨ R1.own = true ∧ ∃ a, q.2.h.get 1 = some a ∧ BackO (gK 2 4) a R1) ∧
      ∀ p, p ∈ ot → 2 ≤ p.1 ∧ p.1 < 40 ∧ (p.2 = .dead ∨ p.2.own = true ∧ ∃ a, q.2.h.get p.1 = some a ∧ BackO (gK 2 4) a p.2)) :
    Call1 Try.prog f args (S4m (.slice (some (1, 0)) n c) (.cells cs true) W A) (v, outS (gK 2 4) ((0, T1) :: (1, R1) :: ot) (S4m (.slice (some (1, 0)) n c) (.cells cs true) W A) 44) := by
  refine Call1.same (S := S4m (.slice (some (1, 0)) n c) (.cells cs true) W A) 2 2 (Nat.le_refl 2) hrun rfl (fun j hj => ?_) (fun j x hj => ?_) hargs fun q hq => ?_
  · match j, hj with
    | 0, _ => exact ⟨_, (by kernel_rfl : _ = some (tob (.slice (some (1, 0)) n c))), by simp [tob]⟩
    | 1, _ => exact ⟨_, (by kernel_rfl : _ = some (.cells cs true)), by simp⟩
  · rcases get2 hj with ⟨rfl, rfl⟩ | ⟨rfl, rfl⟩
    · exact ⟨by decide, fun _ => ⟨by decide, by kernel_rfl, .of (by kernel_rfl)⟩⟩
    · exact ⟨by decide, fun _ => ⟨by decide, by kernel_rfl, .row hcs⟩⟩
  · obtain ⟨b1, b2, b3, b4, b5⟩ := hb q hq
    refine ⟨b1, by show 4 + q.2.next ≤ 44; omega, by show 4 + 2 ≤ 44; decide, fun p hp => ?_, fun j x hj ho => ?_⟩
    · rcases List.mem_cons.1 hp with rfl | hp
      · exact ⟨(by show 0 < 44; decide), .inl (by show 0 < 2; decide), fun _ => ⟨_, (by kernel_rfl : _ = some (tob (.slice (some (1, 0)) n c))), rfl⟩, .inr b3⟩
      · rcases List.mem_cons.1 hp with rfl | hp
        · exact ⟨(by show 1 < 44; decide), .inl (by show 1 < 2; decide), fun _ => ⟨_, (by kernel_rfl : _ = some (.cells cs true)), rfl⟩, b4⟩
        · obtain ⟨c1, c2, c3⟩ := b5 p hp
          have hg : gK 2 4 p.1 = 4 + p.1 := by
            unfold gK
            cases h : Nat.blt p.1 2 with
            | false => rfl
            | true => rw [Nat.blt_eq] at h; omega
          exact ⟨by show gK 2 4 p.1 < 44; rw [hg]; omega, .inr c1, fun h => absurd h (by omega), c3⟩
    · rcases get2 hj with ⟨rfl, rfl⟩ | ⟨rfl, rfl⟩
      · exact ⟨_, List.mem_cons_self, rfl⟩
      · exact ⟨_, List.mem_cons_of_mem _ List.mem_cons_self, rfl⟩
theorem tab1_same
    (hrun : ∀ B w0 ι W args', (∀ i, ¬ B.rs i) → SR B w0 ι (M2 nilA .dead) W → VRs ι args args' → (callFunc f args').run Try.prog W = .ok (.enter f args') W ∧ CallsIn Fence.wide 0 Try.prog f args' W fun e w' => ∃ v, Q1 v ∧ Post B w0 ι v e w')
    (hargs : ∀ v, v ∈ args → renV (List.range 1) v = some v)
    (hb : ∀ q, Q1 q → BackV (gK 1 4) q.1 v ∧ q.2.next ≤ 40 ∧ (T1.own = true ∧ ∃ a, q.2.h.get 0 = some a ∧ BackO (gK 1 4) a T1) ∧
      ∀ p, p ∈ ot → 2 ≤ p.1 ∧ p.1 < 40 ∧ (p.2 = .dead ∨ p.2.own = true ∧ ∃ a, q.2.h.get p.1 = some a ∧ BackO (gK 1 4) a p.2)) :
    Call1 Try.prog f args (S4m nilA .dead W A) (v, outS (gK 1 4) ((0, T1) :: ot) (S4m nilA .dead W A) 44) := by
  refine Call1.same (S := S4m nilA .dead W A) 1 2 (by decide) hrun rfl (fun j hj => ?_) (fun j x hj => ?_) hargs fun q hq => ?_
  · match j, hj with
    | 0, _ => exact ⟨_, (by kernel_rfl : _ = some (tob nilA)), by simp [tob]⟩
  · rcases get2 hj with ⟨rfl, rfl⟩ | ⟨rfl, rfl⟩
    · exact ⟨by decide, fun _ => ⟨by decide, by kernel_rfl, .of (by kernel_rfl)⟩⟩
    · exact ⟨by decide, fun h => absurd rfl h⟩
  · obtain ⟨b1, b2, b3, b5⟩ := hb q hq
    refine ⟨b1, by show 4 + q.2.next ≤ 44; omega, by show 4 + 2 ≤ 44; decide, fun p hp => ?_, fun j x hj ho => ?_⟩
    · rcases List.mem_cons.1 hp with rfl | hp
      · exact ⟨(by show 0 < 44; decide), .inl (by show 0 < 1; decide), fun _ => ⟨_, (by kernel_rfl : _ = some (tob nilA)), rfl⟩, .inr b3⟩
      · obtain ⟨c1, c2, c3⟩ := b5 p hp
        have hg : gK 1 4 p.1 = 4 + p.1 := by
          unfold gK
          cases h : Nat.blt p.1 1 with
          | false => rfl
          | true => rw [Nat.blt_eq] at h; omega
        exact ⟨by show gK 1 4 p.1 < 44; rw [hg]; omega, .inr c1, fun h => absurd h (by omega), c3⟩
    · rcases get2 hj with ⟨rfl, rfl⟩ | ⟨rfl, rfl⟩
      · exact ⟨_, List.mem_cons_self, rfl⟩
      · cases ho
theorem comeRun' (hl : l.length < 4398046511104) (hR : RowR R l) (B : Prot) (w0 : World) (ι : Ren) (W : World) (args' : Array Value) (hsr : SR B w0 ι (M2 (slT l.length) (.cells R true)) W)
    (hv : VRs ι [.ptr (some (0, 0)), .int .u64 m, .int .i64 b, .bool w] args') :
    (callFunc 12 args').run Try.prog W = .ok (.enter 12 args') W ∧ CallsIn Fence.wide 0 Try.prog 12 args' W fun e w' => ∃ v, ComeQ l (.cells R true) m b w v ∧ Post B w0 ι v e w' := by
  have hb64 : ∀ {P : Prop}, (!ltF b (.ofNat 64)) = true → (ltF b (.ofNat 64) = false → P) → P := fun h k => k (by rw [Bool.not_eq_true'] at h; exact h)
  have r1 : ∀ {S : ASt}, S.h.get 1 = some (.cells R true) → RowIn S 1 l := fun h => hR.row h
  have c1 : Call1 Try.prog 65 [.slice (some (1, 0)) l.length (.rest 4), .clos 66 [.ptr (some (2, 0))]] (vcCx_s1 l.length m (.cells R true)) (.int .i64 (idxV (findP m) l), vcCx_s1 l.length m (.cells R true)) := find_row (rw' := true) (by omega) (r1 (by kernel_rfl)) (by kernel_rfl)
  have c2 : Call1 Try.prog 44 [.slice (some (1, 0)) l.length (.rest 4), bd (newQ m b w false)] (vcCx_s3 l.length m b w (.cells R true)) (.bool (l.any (hindB (newQ m b w false))), vcCx_s3 l.length m b w (.cells R true)) := cont_row (by omega) (r1 (by kernel_rfl))
  have avs : ∀ y : Bool, avEq (.agg [.int .u64 m, .int .i64 (bif ltF b (Int.negSucc 0) then Int.negSucc 0 else b), .bool w, .bool y]) (.agg [.int .u64 m, .int .i64 (bif ltF b (Int.negSucc 0) then Int.negSucc 0 else b), .bool w, .bool y]) = true := fun y => by
    cases w <;> cases y <;> simp [avEq, avsEq, boolEq]
  have old : ∀ {S : ASt}, S.h.get 1 = some (.cells R true) → aFirst S 4 l.length (.slice (some (1, 0)) l.length (.known l.length)) = some (l.flatMap enc4) := fun h => first_at h (by rw [← fm_len enc4_len]; exact hR.at_)
  have g3 : ∀ {P : Prop}, (!ltF b (.ofNat 64)) = false → (ltF b (.ofNat 64) = true → P) → P := fun h k => k (by rw [Bool.not_eq_false'] at h; exact h)
  have hn1 : (2 * (l.length + 1) + 200) * 24 ≤ 281474976710656 := by omega
  cases hh : l.any (hindB (newQ m b w false)) with
  | true =>
    rw [hh] at c2
    refine run_of_tm ECok (come_tab c1 c2) (ko := [0, 1, 26]) (Eq.mp (vcCx (tabC _) l.length m b (idxV (findP m) l) w true (.cells R true) (.cells (l.flatMap enc4 ++ enc4 (newQ m b w false)) true) (ComeQ l (.cells R true) m b w)) (ifB_mk (fun g => hb64 g fun g => .inl ⟨g, rfl⟩) fun g => g3 g fun g => ⟨call_at (onlyC_at rfl (tabC_hd ..)), ifB_mk (fun k => .inr (.inl ⟨g, by rw [← idx_any_neg]; exact k, rfl⟩)) fun k => ⟨call_at (onlyC_at rfl ((tabC_tlf rfl).trans (tabC_hd ..))), trivial, clip, ?_, ⟨⟨rfl, avs _⟩, trivial⟩, .inr (.inr ⟨g, by rw [← idx_any_neg]; exact k, ?_⟩)⟩⟩)) B w0 ι W args' hsr hv
    · exact (append_full_at (l := l.length) (i := 1) (o := 0) (n := 1) (new := enc4 (newQ m b w false)) (old := l.flatMap enc4) cp35 (by kernel_rfl) (first_at (cs := enc4 (newQ m b w false)) (rw := true) (by kernel_rfl) (by kernel_rfl)) (old (by kernel_rfl)) (by decide) hn1 (by omega)).trans (by kernel_rfl)
    · rw [hh, List.flatMap_append]
      rfl
  | false =>
    rw [hh] at c2
    refine run_of_tm ECok (come_tab (c1 : Call1 Try.prog 65 _ (vcCy_s1 l.length m (.cells R true)) (_, vcCy_s1 l.length m (.cells R true))) (c2 : Call1 Try.prog 44 _ (vcCy_s3 l.length m b w (.cells R true)) (_, vcCy_s3 l.length m b w (.cells R true)))) (ko := [0, 1, 26]) (Eq.mp (vcCy (tabC _) l.length m b (idxV (findP m) l) w true (.cells R true) (.cells (l.flatMap enc4 ++ enc4 (newQ m b w true)) true) (ComeQ l (.cells R true) m b w)) (ifB_mk (fun g => hb64 g fun g => .inl ⟨g, rfl⟩) fun g => g3 g fun g => ⟨call_at (onlyC_at rfl (tabC_hd ..)), ifB_mk (fun k => .inr (.inl ⟨g, by rw [← idx_any_neg]; exact k, rfl⟩)) fun k => ⟨call_at (onlyC_at rfl ((tabC_tlf rfl).trans (tabC_hd ..))), trivial, clip, ?_, ⟨⟨rfl, avs _⟩, trivial⟩, .inr (.inr ⟨g, by rw [← idx_any_neg]; exact k, ?_⟩)⟩⟩)) B w0 ι W args' hsr hv
    · exact (append_full_at (l := l.length) (i := 1) (o := 0) (n := 1) (new := enc4 (newQ m b w true)) (old := l.flatMap enc4) cp35 (by kernel_rfl) (first_at (cs := enc4 (newQ m b w true)) (rw := true) (by kernel_rfl) (by kernel_rfl)) (old (by kernel_rfl)) (by decide) hn1 (by omega)).trans (by kernel_rfl)
    · rw [hh, List.flatMap_append]
      rfl
def ComeZ (m b : Int) (w : Bool) (q : AV × ASt) : Prop :=
  (ltF b (.ofNat 64) = false ∧ q = (.tuple [.bool false, .int .i64 (.ofNat 2)], M2 zeroA zeroO)) ∨
  (ltF b (.ofNat 64) = true ∧ q.1 = .tuple [.bool true, .int .i64 (.ofNat 0)] ∧ q.2.h.get 0 = some (tob (.slice (some (26, 0)) 1 (.rest 4))) ∧ q.2.h.get 1 = some zeroO ∧ q.2.h.get 26 = some (.cells (enc4 (newQ m b w true)) true) ∧ q.2.next ≤ 27)
theorem comeZero (B : Prot) (w0 : World) (ι : Ren) (W : World) (args' : Array Value) (hsr : SR B w0 ι (M2 zeroA zeroO) W) (hv : VRs ι [.ptr (some (0, 0)), .int .u64 m, .int .i64 b, .bool w] args') :
    (callFunc 12 args').run Try.prog W = .ok (.enter 12 args') W ∧ CallsIn Fence.wide 0 Try.prog 12 args' W fun e w' => ∃ v, ComeZ m b w v ∧ Post B w0 ι v e w' := by
  have c1 : Call1 Try.prog 65 [zeroA, .clos 66 [.ptr (some (2, 0))]] (vcEc_s1 m zeroO) (.int .i64 (-1), vcEc_s1 m zeroO) := find_00 (rw' := true) (m := m) (by kernel_rfl)
  have c2 : Call1 Try.prog 44 [zeroA, bd (newQ m b w false)] (vcEc_s2 m b w zeroO) (.bool false, vcEc_s2 m b w zeroO) := cont_0
  have avs : ∀ y : Bool, avEq (.agg [.int .u64 m, .int .i64 (bif ltF b (Int.negSucc 0) then Int.negSucc 0 else b), .bool w, .bool y]) (.agg [.int .u64 m, .int .i64 (bif ltF b (Int.negSucc 0) then Int.negSucc 0 else b), .bool w, .bool y]) = true := fun y => by
    cases w <;> cases y <;> simp [avEq, avsEq, boolEq]
  refine run_of_tm ECok (come_tab c1 c2) (ko := KO9) (Eq.mp (vcEc (tabC _) m b w zeroO (.cells (enc4 (newQ m b w true)) true) (ComeZ m b w)) (ifB_mk (fun g => .inl ⟨by rw [Bool.not_eq_true'] at g; exact g, rfl⟩) fun g => ⟨call_at (onlyC_at rfl (tabC_hd ..)), call_at (onlyC_at rfl ((tabC_tlf rfl).trans (tabC_hd ..))), trivial, by kernel_rfl, ?_, ⟨⟨rfl, avs _⟩, trivial⟩, .inr ⟨by rw [Bool.not_eq_false'] at g; exact g, rfl, by kernel_rfl, by kernel_rfl, by kernel_rfl, Nat.le_refl _⟩⟩)) B w0 ι W args' hsr hv
  exact (append_zero_at cp35 (n := 1) (cs := []) (rw := true) (new := enc4 (newQ m b w true)) (by kernel_rfl) (first_at (cs := enc4 (newQ m b w true)) (rw := true) (by kernel_rfl) (by kernel_rfl)) (by kernel_rfl) (by decide) (by decide) (by decide)).trans (by kernel_rfl)
end
end Go.Proofs.Ytelehjeifhelnaa.ovp
end

section
open Go Go.Ax Go.Proofs
namespace Go.Proofs.Ytelehjeifhelnaa.ovp
set_option linter.unusedVariables false
section
variable {l : List RQ} {m b : Int} {w : Bool} {V : AV} {R W A : AO} {T D : List RQ} {x : RQ}
theorem Call1.mem {P : Program} {f : Nat} {args : List AV} {S S1 S2 : ASt} {v : AV} (e : S1 = S2) (h : Call1 P f args S (v, S1)) : Call1 P f args S (v, S2) := e ▸ h
theorem args12 {k : Nat} (hk : k = 1 ∨ k = 2) : ∀ v, v ∈ [p0, .int .u64 m, .int .i64 b, .bool w] → renV (List.range k) v = some v := fun v hv => by
  simp only [List.mem_cons, List.not_mem_nil, or_false] at hv
  rcases hk with rfl | rfl <;> rcases hv with rfl | rfl | rfl | rfl <;> kernel_rfl
theorem args13 {k : Nat} (hk : k = 1 ∨ k = 2) : ∀ v, v ∈ [p0, .int .u64 m] → renV (List.range k) v = some v := fun v hv => by
  simp only [List.mem_cons, List.not_mem_nil, or_false] at hv
  rcases hk with rfl | rfl <;> rcases hv with rfl | rfl <;> kernel_rfl
theorem args14 {k : Nat} (hk : k = 1 ∨ k = 2) : ∀ v, v ∈ [p0] → renV (List.range k) v = some v := fun v hv => by
  simp only [List.mem_cons, List.not_mem_nil, or_false] at hv
  rcases hk with rfl | rfl <;> rcases hv with rfl <;> kernel_rfl
theorem tob_back {n : Nat} {c : Cap} : BackO (gK 2 4) (tob (.slice (some (1, 0)) n c)) (tob (.slice (some (1, 0)) n c)) := .cells (by kernel_rfl)
theorem zref : ∀ c, c ∈ ([] : List AV) → refsV 0 c := fun c hc => by cases hc
noncomputable def S44 (T R W A : AO) : ASt := mkSt [(0, T), (1, R), (2, W), (3, A)] 44
noncomputable def S44n (T R W A N : AO) : ASt := mkSt [(0, T), (1, R), (2, W), (3, A), (30, N)] 44
theorem come_no {e : Nat} (hT : TabV 1 l V R) (hl : l.length < 100000) (he : (ltF b (.ofNat 64) = false ∧ e = 2) ∨ (ltF b (.ofNat 64) = true ∧ l.any (findP m) = true ∧ e = 7)) :
    Call1 Try.prog 12 [p0, .int .u64 m, .int .i64 b, .bool w] (S4m V R W A) (.tuple [.bool false, .int .i64 (.ofNat e)], S44 (tob V) R W A) := by
  have no : ∀ {P : Prop}, ltF b (.ofNat 64) = false → ltF b (.ofNat 64) = true → P := fun h h' => by rw [h] at h'; cases h'
  cases hT with
  | row hR =>
    rename_i cs
    have h := tab2_same (ot := []) (W := W) (A := A) (T1 := tob (slT l.length)) (R1 := .cells cs true) (v := .tuple [.bool false, .int .i64 (.ofNat e)]) hR.refs (fun B w0 ι W args' _ hsr hv => comeRun' (m := m) (b := b) (w := w) (by omega) hR B w0 ι W args' hsr hv) (args12 (.inr rfl)) (fun q hq => by
      rcases hq with ⟨g, rfl⟩ | ⟨g, g2, rfl⟩ | ⟨g, g2, rfl⟩
      · rcases he with ⟨_, rfl⟩ | ⟨h1, _⟩
        · exact ⟨.keep (by simp [refsV]), by show 2 ≤ 40; decide, ⟨rfl, _, (by kernel_rfl : _ = some (tob (slT l.length))), tob_back⟩, .inr ⟨rfl, _, (by kernel_rfl : _ = some (.cells cs true)), .row hR.refs⟩, fun p hp => by cases hp⟩
        · exact no g h1
      · rcases he with ⟨h1, _⟩ | ⟨_, _, rfl⟩
        · exact no h1 g
        · exact ⟨.keep (by simp [refsV]), by show 3 ≤ 40; decide, ⟨rfl, _, (by kernel_rfl : _ = some (tob (slT l.length))), tob_back⟩, .inr ⟨rfl, _, (by kernel_rfl : _ = some (.cells cs true)), .row hR.refs⟩, fun p hp => by cases hp⟩
      · rcases he with ⟨h1, _⟩ | ⟨_, h1, _⟩
        · exact no h1 g
        · rw [g2] at h1; cases h1)
    have e1 : outS (gK 2 4) [(0, tob (slT l.length)), (1, .cells cs true)] (S4m (slT l.length) (.cells cs true) W A) 44 = S44 (tob (slT l.length)) (.cells cs true) W A := by kernel_rfl
    exact Call1.mem e1 h
  | nil =>
    have hb : ltF b (.ofNat 64) = false ∧ e = 2 := by
      rcases he with h | ⟨_, h, _⟩
      · exact h
      · cases h
    obtain ⟨hb, rfl⟩ := hb
    have h := tab1_same (ot := []) (W := W) (A := A) (T1 := tob nilA) (v := .tuple [.bool false, .int .i64 (.ofNat 2)]) (fun B w0 ι W args' _ hsr hv => comeNil (m := m) (b := b) (w := w) B w0 ι W args' hsr hv) (args12 (.inl rfl)) (fun q hq => by
      rcases hq with ⟨g, rfl⟩ | ⟨g, rfl⟩
      · exact ⟨.keep (by simp [refsV]), by show 2 ≤ 40; decide, ⟨rfl, _, (by kernel_rfl : _ = some (tob nilA)), .cells (by kernel_rfl)⟩, fun p hp => by cases hp⟩
      · exact no hb g)
    have e1 : outS (gK 1 4) [(0, tob nilA)] (S4m nilA .dead W A) 44 = S44 (tob nilA) .dead W A := by kernel_rfl
    exact Call1.mem e1 h
  | zero =>
    have hb : ltF b (.ofNat 64) = false ∧ e = 2 := by
      rcases he with h | ⟨_, h, _⟩
      · exact h
      · cases h
    obtain ⟨hb, rfl⟩ := hb
    have h := tab2_same (ot := []) (W := W) (A := A) (T1 := tob zeroA) (R1 := zeroO) (v := .tuple [.bool false, .int .i64 (.ofNat 2)]) zref (fun B w0 ι W args' _ hsr hv => comeZero (m := m) (b := b) (w := w) B w0 ι W args' hsr hv) (args12 (.inr rfl)) (fun q hq => by
      rcases hq with ⟨g, rfl⟩ | ⟨g, _⟩
      · exact ⟨.keep (by simp [refsV]), by show 2 ≤ 40; decide, ⟨rfl, _, (by kernel_rfl : _ = some (tob zeroA)), tob_back⟩, .inr ⟨rfl, _, (by kernel_rfl : _ = some zeroO), .row zref⟩, fun p hp => by cases hp⟩
      · exact no hb g)
    have e1 : outS (gK 2 4) [(0, tob zeroA), (1, zeroO)] (S4m zeroA zeroO W A) 44 = S44 (tob zeroA) zeroO W A := by kernel_rfl
    exact Call1.mem e1 h
def plusQ (l : List RQ) (m b : Int) (w : Bool) : List RQ := l ++ [newQ m b w (!l.any (hindB (newQ m b w false)))]
theorem come_yes (hT : TabV 1 l V R) (hl : l.length < 100000) (hb : ltF b (.ofNat 64) = true) (hm : l.any (findP m) = false) :
    Call1 Try.prog 12 [p0, .int .u64 m, .int .i64 b, .bool w] (S4m V R W A) (.tuple [.bool (!l.any (hindB (newQ m b w false))), .int .i64 (.ofNat 0)], S44n (tob (slW 30 (l.length + 1))) R W A (.cells ((plusQ l m b w).flatMap enc4) true)) := by
  have no : ∀ {P : Prop}, ltF b (.ofNat 64) = false → P := fun h => by rw [hb] at h; cases h
  have hrow : ∀ {X : List RQ} {g : Nat → Nat}, BackO g (.cells (X.flatMap enc4) true) (.cells (X.flatMap enc4) true) := .row enc4_refs
  cases hT with
  | row hR =>
    rename_i cs
    have h := tab2_same (ot := [(26, .cells ((plusQ l m b w).flatMap enc4) true)]) (W := W) (A := A) (T1 := tob (slW 30 (l.length + 1))) (R1 := .cells cs true) (v := .tuple [.bool (!l.any (hindB (newQ m b w false))), .int .i64 (.ofNat 0)]) hR.refs (fun B w0 ι W args' _ hsr hv => comeRun' (m := m) (b := b) (w := w) (by omega) hR B w0 ι W args' hsr hv) (args12 (.inr rfl)) (fun q hq => by
      rcases hq with ⟨g, rfl⟩ | ⟨g, g2, rfl⟩ | ⟨g, g2, rfl⟩
      · exact no g
      · rw [hm] at g2; cases g2
      · refine ⟨.keep (by simp [refsV]), by show 27 ≤ 40; decide, ⟨rfl, _, (by kernel_rfl : _ = some (tob (.slice (some (26, 0)) (l.length + 1) (.rest 4)))), .cells (by kernel_rfl)⟩, .inr ⟨rfl, _, (by kernel_rfl : _ = some (.cells cs true)), .row hR.refs⟩, fun p hp => ?_⟩
        simp only [List.mem_cons, List.not_mem_nil, or_false] at hp
        subst hp
        exact ⟨by show 2 ≤ 26; decide, by show 26 < 40; decide, .inr ⟨rfl, _, (by kernel_rfl : _ = some (.cells ((plusQ l m b w).flatMap enc4) true)), hrow⟩⟩)
    have e1 : outS (gK 2 4) [(0, tob (slW 30 (l.length + 1))), (1, .cells cs true), (26, .cells ((plusQ l m b w).flatMap enc4) true)] (S4m (slT l.length) (.cells cs true) W A) 44 = S44n (tob (slW 30 (l.length + 1))) (.cells cs true) W A (.cells ((plusQ l m b w).flatMap enc4) true) := by kernel_rfl
    exact Call1.mem e1 h
  | nil =>
    have h := tab1_same (ot := [(26, .cells ((plusQ [] m b w).flatMap enc4) true)]) (W := W) (A := A) (T1 := tob (slW 30 1)) (v := .tuple [.bool true, .int .i64 (.ofNat 0)]) (fun B w0 ι W args' _ hsr hv => comeNil (m := m) (b := b) (w := w) B w0 ι W args' hsr hv) (args12 (.inl rfl)) (fun q hq => by
      rcases hq with ⟨g, rfl⟩ | ⟨g, rfl⟩
      · exact no g
      · refine ⟨.keep (by simp [refsV]), by show 27 ≤ 40; decide, ⟨rfl, _, (by kernel_rfl : _ = some (tob (.slice (some (26, 0)) 1 (.rest 4)))), .cells (by kernel_rfl)⟩, fun p hp => ?_⟩
        simp only [List.mem_cons, List.not_mem_nil, or_false] at hp
        subst hp
        exact ⟨by show 2 ≤ 26; decide, by show 26 < 40; decide, .inr ⟨rfl, _, (by kernel_rfl : _ = some (.cells ((plusQ [] m b w).flatMap enc4) true)), hrow⟩⟩)
    have e1 : outS (gK 1 4) [(0, tob (slW 30 1)), (26, .cells ((plusQ [] m b w).flatMap enc4) true)] (S4m nilA .dead W A) 44 = S44n (tob (slW 30 1)) .dead W A (.cells ((plusQ [] m b w).flatMap enc4) true) := by kernel_rfl
    exact Call1.mem e1 h
  | zero =>
    have h := tab2_same (ot := [(26, .cells ((plusQ [] m b w).flatMap enc4) true)]) (W := W) (A := A) (T1 := tob (slW 30 1)) (R1 := zeroO) (v := .tuple [.bool true, .int .i64 (.ofNat 0)]) zref (fun B w0 ι W args' _ hsr hv => comeZero (m := m) (b := b) (w := w) B w0 ι W args' hsr hv) (args12 (.inr rfl)) (fun q hq => by
      rcases hq with ⟨g, rfl⟩ | ⟨g, g1, g2, g3, g4, g5⟩
      · exact no g
      · refine ⟨by rw [g1]; exact .keep (by simp [refsV]), by omega, ⟨rfl, _, g2, .cells (by kernel_rfl)⟩, .inr ⟨rfl, _, g3, .row zref⟩, fun p hp => ?_⟩
        simp only [List.mem_cons, List.not_mem_nil, or_false] at hp
        subst hp
        exact ⟨by show 2 ≤ 26; decide, by show 26 < 40; decide, .inr ⟨rfl, _, g4, hrow⟩⟩)
    have e1 : outS (gK 2 4) [(0, tob (slW 30 1)), (1, zeroO), (26, .cells ((plusQ [] m b w).flatMap enc4) true)] (S4m zeroA zeroO W A) 44 = S44n (tob (slW 30 1)) zeroO W A (.cells ((plusQ [] m b w).flatMap enc4) true) := by kernel_rfl
    exact Call1.mem e1 h
theorem done_no (hT : TabV 1 l V R) (hl : l.length < 100000) (hm : l.any (findP m) = false) :
    Call1 Try.prog 13 [p0, .int .u64 m] (S4m V R W A) (.tuple [nilA, .int .i64 (.ofNat 6)], S44 (tob V) R W A) := by
  have key : ∀ {V : AV} {R : AO}, Call1 Try.prog 65 [V, .clos 66 [.ptr (some (2, 0))]] (vcEd_s0 V m R) (.int .i64 (-1), vcEd_s0 V m R) → ∀ (B : Prot) (w0 : World) (ι : Ren) (W : World) (args' : Array Value) (hsr : SR B w0 ι (M2 V R) W) (hv : VRs ι [p0, .int .u64 m] args'),
      (callFunc 13 args').run Try.prog W = .ok (.enter 13 args') W ∧ CallsIn Fence.wide 0 Try.prog 13 args' W fun e w' => ∃ v, v = (.tuple [nilA, .int .i64 (.ofNat 6)], vcEd_s0 V m R) ∧ Post B w0 ι v e w' := fun {V R} hc B w0 ι W args' hsr hv =>
    run_of_tm EDok (tab1 hc) (ko := KO9) (Eq.mp (vcEd (tabC _) V m R (fun v => v = (.tuple [nilA, .int .i64 (.ofNat 6)], vcEd_s0 V m R))) ⟨call_at (onlyC_at rfl (tabC_hd ..)), rfl⟩) B w0 ι W args' hsr hv
  cases hT with
  | row hR =>
    rename_i cs
    have hi : idxV (findP m) l = -1 := by
      have h1 : l.findIdx? (findP m) = none := by
        rw [List.findIdx?_eq_none_iff]
        rw [List.any_eq_false] at hm
        intro x hx
        have := hm x hx
        simpa using this
      unfold idxV
      rw [h1]
    have hc := find_row (l := l) (m := m) (r := 1) (b := 2) (rw' := true) (c := .rest 4) (S := vcEd_s0 (slT l.length) m (.cells cs true)) (by omega) (hR.row (rw := true) (by kernel_rfl)) (by kernel_rfl)
    rw [hi] at hc
    have h := tab2_same (ot := []) (W := W) (A := A) (T1 := tob (slT l.length)) (R1 := .cells cs true) (v := .tuple [nilA, .int .i64 (.ofNat 6)]) hR.refs (fun B w0 ι W args' _ hsr hv => key hc B w0 ι W args' hsr hv) (args13 (.inr rfl)) (fun q hq => by
      subst hq
      exact ⟨.keep (by simp [refsV, nilA]), by show 3 ≤ 40; decide, ⟨rfl, _, (by kernel_rfl : _ = some (tob (slT l.length))), tob_back⟩, .inr ⟨rfl, _, (by kernel_rfl : _ = some (.cells cs true)), .row hR.refs⟩, fun p hp => by cases hp⟩)
    have e1 : outS (gK 2 4) [(0, tob (slT l.length)), (1, .cells cs true)] (S4m (slT l.length) (.cells cs true) W A) 44 = S44 (tob (slT l.length)) (.cells cs true) W A := by kernel_rfl
    exact Call1.mem e1 h
  | nil =>
    have h := tab1_same (ot := []) (W := W) (A := A) (T1 := tob nilA) (v := .tuple [nilA, .int .i64 (.ofNat 6)]) (fun B w0 ι W args' _ hsr hv => key (V := nilA) (R := .dead) (find_nil (rw' := true) (m := m) (by kernel_rfl)) B w0 ι W args' hsr hv) (args13 (.inl rfl)) (fun q hq => by
      subst hq
      exact ⟨.keep (by simp [refsV, nilA]), by show 3 ≤ 40; decide, ⟨rfl, _, (by kernel_rfl : _ = some (tob nilA)), .cells (by kernel_rfl)⟩, fun p hp => by cases hp⟩)
    have e1 : outS (gK 1 4) [(0, tob nilA)] (S4m nilA .dead W A) 44 = S44 (tob nilA) .dead W A := by kernel_rfl
    exact Call1.mem e1 h
  | zero =>
    have h := tab2_same (ot := []) (W := W) (A := A) (T1 := tob zeroA) (R1 := zeroO) (v := .tuple [nilA, .int .i64 (.ofNat 6)]) zref (fun B w0 ι W args' _ hsr hv => key (V := zeroA) (R := zeroO) (find_00 (rw' := true) (m := m) (by kernel_rfl)) B w0 ι W args' hsr hv) (args13 (.inr rfl)) (fun q hq => by
      subst hq
      exact ⟨.keep (by simp [refsV, nilA]), by show 3 ≤ 40; decide, ⟨rfl, _, (by kernel_rfl : _ = some (tob zeroA)), tob_back⟩, .inr ⟨rfl, _, (by kernel_rfl : _ = some zeroO), .row zref⟩, fun p hp => by cases hp⟩)
    have e1 : outS (gK 2 4) [(0, tob zeroA), (1, zeroO)] (S4m zeroA zeroO W A) 44 = S44 (tob zeroA) zeroO W A := by kernel_rfl
    exact Call1.mem e1 h
theorem TabV.row_of {k : Nat} (hT : TabV k l V R) (h0 : l ≠ []) : ∃ cs, RowR cs l ∧ V = slW k l.length ∧ R = .cells cs true := by
  cases hT with
  | row h => exact ⟨_, h, rfl, rfl⟩
  | nil => exact absurd rfl h0
  | zero => exact absurd rfl h0
theorem mapV_Vr {g : Nat → Nat} {k : Nat} {x : List Int} : mapV g (Vr k x) = Vr (g k) x := by
  cases x <;> rfl
theorem done_yes (hT : TabV 1 (T ++ x :: D) V R) (hl : (T ++ x :: D).length < 100000) (hi : idxV (findP m) (T ++ x :: D) = .ofNat T.length) :
    Call1 Try.prog 13 [p0, .int .u64 m] (S4m V R W A) (.tuple [Vr 7 (promP (T ++ D)).2, .int .i64 (.ofNat 0)], mkSt [(0, tob (slW 6 (T ++ D).length)), (1, .dead), (2, W), (3, A), (6, rowZ (promP (T ++ D)).1 zero4), (7, Bn (promP (T ++ D)).2)] 44) := by
  obtain ⟨cs, hR, rfl, rfl⟩ := hT.row_of (by simp)
  have h := tab2_same (ot := [(2, rowZ (promP (T ++ D)).1 zero4), (3, Bn (promP (T ++ D)).2)]) (W := W) (A := A) (T1 := tob (slW 6 (T ++ D).length)) (R1 := .dead) (v := .tuple [Vr 7 (promP (T ++ D)).2, .int .i64 (.ofNat 0)]) hR.refs (fun B w0 ι W args' hB hsr hv => doneRun (m := m) (by omega) hR hi B w0 ι W args' hB hsr hv) (args13 (.inr rfl)) (fun q hq => by
    subst hq
    refine ⟨BackV.eq ?_, by show 4 ≤ 40; decide, ⟨rfl, _, (by kernel_rfl : _ = some (tob (slK (T ++ D).length))), .cells (by kernel_rfl)⟩, .inl rfl, fun p hp => ?_⟩
    · show AV.tuple [mapV (gK 2 4) (Vr 3 (promP (T ++ D)).2), .int .i64 (.ofNat 0)] = _
      rw [mapV_Vr]; rfl
    · simp only [List.mem_cons, List.not_mem_nil, or_false] at hp
      rcases hp with rfl | rfl
      · exact ⟨by show 2 ≤ 2; decide, by show 2 < 40; decide, .inr ⟨rfl, _, (by kernel_rfl : _ = some (rowZ (promP (T ++ D)).1 zero4)), .row (rowZ_R (T := (promP (T ++ D)).1) zero4_refs).refs⟩⟩
      · refine ⟨by show 2 ≤ 3; decide, by show 3 < 40; decide, ?_⟩
        cases e : (promP (T ++ D)).2 with
        | nil => exact .inl rfl
        | cons y ys =>
          refine .inr ⟨rfl, .cells ((y :: ys).map cu) true, ?_, BackO.row cu_refs⟩
          have : (S4 (T ++ D).length (rowZ (promP (T ++ D)).1 zero4) (Bn (promP (T ++ D)).2)).h.get 3 = some (Bn (promP (T ++ D)).2) := by kernel_rfl
          rw [e] at this
          show (S4 (T ++ D).length (rowZ (promP (T ++ D)).1 zero4) (Bn (promP (T ++ D)).2)).h.get 3 = _
          rw [e]
          exact this)
  have e1 : outS (gK 2 4) [(0, tob (slW 6 (T ++ D).length)), (1, .dead), (2, rowZ (promP (T ++ D)).1 zero4), (3, Bn (promP (T ++ D)).2)] (S4m (slW 1 (T ++ x :: D).length) (.cells cs true) W A) 44 = mkSt [(0, tob (slW 6 (T ++ D).length)), (1, .dead), (2, W), (3, A), (6, rowZ (promP (T ++ D)).1 zero4), (7, Bn (promP (T ++ D)).2)] 44 := by kernel_rfl
  exact Call1.mem e1 h
theorem clear_0 (hT : TabV 1 [] V R) : Call1 Try.prog 14 [p0] (S4m V R W A) (nilA, S44 (tob nilA) R W A) := by
  cases hT with
  | row hR =>
    rename_i cs
    have h := tab2_same (ot := []) (W := W) (A := A) (T1 := tob nilA) (R1 := .cells cs true) (v := nilA) hR.refs (fun B w0 ι W args' hB hsr hv => clearRun (l := []) (by decide) hR B w0 ι W args' hB hsr hv) (args14 (.inr rfl)) (fun q hq => by
      subst hq
      exact ⟨.keep (by simp [refsV, nilA, Vr, allN]), by show 3 ≤ 40; decide, ⟨rfl, _, (by kernel_rfl : _ = some (tob nilA)), .cells (by kernel_rfl)⟩, .inr ⟨rfl, _, (by kernel_rfl : _ = some (.cells cs true)), .row hR.refs⟩, fun p hp => by cases hp⟩)
    have e1 : outS (gK 2 4) [(0, tob nilA), (1, .cells cs true)] (S4m (slT 0) (.cells cs true) W A) 44 = S44 (tob nilA) (.cells cs true) W A := by kernel_rfl
    exact Call1.mem e1 h
  | nil =>
    have h := tab1_same (ot := []) (W := W) (A := A) (T1 := tob nilA) (v := nilA) (fun B w0 ι W args' _ hsr hv => run_of_tm EDok noSum_ok (ko := KO9) (Q1 := fun q => q = (nilA, vcEk_s0)) (Eq.mp (vcEk (fun q => q = (nilA, vcEk_s0))) rfl) B w0 ι W args' hsr hv) (args14 (.inl rfl)) (fun q hq => by
      subst hq
      exact ⟨.keep (by simp [refsV, nilA]), by show 2 ≤ 40; decide, ⟨rfl, _, (by kernel_rfl : _ = some (tob nilA)), .cells (by kernel_rfl)⟩, fun p hp => by cases hp⟩)
    have e1 : outS (gK 1 4) [(0, tob nilA)] (S4m nilA .dead W A) 44 = S44 (tob nilA) .dead W A := by kernel_rfl
    exact Call1.mem e1 h
  | zero =>
    have h := tab2_same (ot := []) (W := W) (A := A) (T1 := tob nilA) (R1 := zeroO) (v := nilA) zref (fun B w0 ι W args' _ hsr hv => run_of_tm EDok noSum_ok (ko := KO9) (Q1 := fun q => q = (nilA, vcEl_s0)) (Eq.mp (vcEl (fun q => q = (nilA, vcEl_s0))) rfl) B w0 ι W args' hsr hv) (args14 (.inr rfl)) (fun q hq => by
      subst hq
      exact ⟨.keep (by simp [refsV, nilA]), by show 2 ≤ 40; decide, ⟨rfl, _, (by kernel_rfl : _ = some (tob nilA)), .cells (by kernel_rfl)⟩, .inr ⟨rfl, _, (by kernel_rfl : _ = some zeroO), .row zref⟩, fun p hp => by cases hp⟩)
    have e1 : outS (gK 2 4) [(0, tob nilA), (1, zeroO)] (S4m zeroA zeroO W A) 44 = S44 (tob nilA) zeroO W A := by kernel_rfl
    exact Call1.mem e1 h
theorem clear_yes (hT : TabV 1 l V R) (h0 : l ≠ []) (hl : l.length < 100000) :
    Call1 Try.prog 14 [p0] (S4m V R W A) (Vr 6 (allN l), mkSt [(0, tob nilA), (1, .dead), (2, W), (3, A), (6, Bn (allN l))] 44) := by
  obtain ⟨cs, hR, rfl, rfl⟩ := hT.row_of h0
  have h := tab2_same (ot := [(2, Bn (allN l))]) (W := W) (A := A) (T1 := tob nilA) (R1 := .dead) (v := Vr 6 (allN l)) hR.refs (fun B w0 ι W args' hB hsr hv => clearRun (by omega) hR B w0 ι W args' hB hsr hv) (args14 (.inr rfl)) (fun q hq => by
    subst hq
    refine ⟨BackV.eq mapV_Vr, by show 3 ≤ 40; decide, ⟨rfl, _, (by kernel_rfl : _ = some (tob nilA)), .cells (by kernel_rfl)⟩, .inl rfl, fun p hp => ?_⟩
    simp only [List.mem_cons, List.not_mem_nil, or_false] at hp
    subst hp
    refine ⟨by show 2 ≤ 2; decide, by show 2 < 40; decide, ?_⟩
    have : (S3 nilA (.cells cs true) (Bn (allN l))).h.get 2 = some (Bn (allN l)) := by kernel_rfl
    cases e : allN l with
    | nil => exact .inl rfl
    | cons y ys =>
      rw [e] at this
      exact .inr ⟨rfl, _, this, BackO.row cu_refs⟩)
  have e1 : outS (gK 2 4) [(0, tob nilA), (1, .dead), (2, Bn (allN l))] (S4m (slW 1 l.length) (.cells cs true) W A) 44 = mkSt [(0, tob nilA), (1, .dead), (2, W), (3, A), (6, Bn (allN l))] 44 := by kernel_rfl
  exact Call1.mem e1 h
end
end Go.Proofs.Ytelehjeifhelnaa.ovp
end
