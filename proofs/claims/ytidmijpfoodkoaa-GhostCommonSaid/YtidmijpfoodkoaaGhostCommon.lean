/-
  PROVED HERE: 'Rows.GhostCommonSaid': for every first generation, every row of births and every two generations the call of the law's function returns true, and the row reads as it did. No condition. THE WALK is a run of the function's text in an abstract machine (the texts WaA to WaF show that it is sound), with the row open: loops by invariants, the tree's and the document's functions by contracts (WgA, WgB).
-/
import Derived.Test.YtidmijpfoodkoaaWgB
import Derived.WalkKit
import Derived.ProofKit
import Derived.OpenShut
import Derived.ShutString
import Derived.ChangeOld
import Derived.ChangeSlices
import Derived.Below
import Derived.Carry
import Derived.Deep.SlicePairs
import Derived.Deep.Grids
import Derived.WideKeyArgs
section
open Go Go.Ax Go.Proofs
namespace Go.Proofs.Ytidmijpfoodkoaa.gho
set_option linter.unusedVariables false
def KO260 : List Nat := [0, 1, 2, 3, 4, 5, 6, 7, 8, 9, 10, 11, 12, 13, 14, 15, 16, 17, 18, 19, 20, 21, 22, 23, 24, 25, 26, 27, 28, 29, 30, 31, 32, 33, 34, 35, 36, 37, 38, 39, 40, 41, 42, 43, 44, 45, 46, 47, 48, 49, 50, 51, 52, 53, 54, 55, 56, 57, 58, 59, 60, 61, 62, 63, 64, 65, 66, 67, 68, 69, 70, 71, 72, 73, 74, 75, 76, 77, 78, 79, 80, 81, 82, 83, 84, 85, 86, 87, 88, 89, 90, 91, 92, 93, 94, 95, 96, 97, 98, 99, 100, 101, 102, 103, 104, 105, 106, 107, 108, 109, 110, 111, 112, 113, 114, 115, 116, 117, 118, 119, 120, 121, 122, 123, 124, 125, 126, 127, 128, 129, 130, 131, 132, 133, 134, 135, 136, 137, 138, 139, 140, 141, 142, 143, 144, 145, 146, 147, 148, 149, 150, 151, 152, 153, 154, 155, 156, 157, 158, 159, 160, 161, 162, 163, 164, 165, 166, 167, 168, 169, 170, 171, 172, 173, 174, 175, 176, 177, 178, 179, 180, 181, 182, 183, 184, 185, 186, 187, 188, 189, 190, 191, 192, 193, 194, 195, 196, 197, 198, 199, 200, 201, 202, 203, 204, 205, 206, 207, 208, 209, 210, 211, 212, 213, 214, 215, 216, 217, 218, 219, 220, 221, 222, 223, 224, 225, 226, 227, 228, 229, 230, 231, 232, 233, 234, 235, 236, 237, 238, 239, 240, 241, 242, 243, 244, 245, 246, 247, 248, 249, 250, 251, 252, 253, 254, 255, 256, 257, 258, 259]
def fstO (x : Option (AV × ASt)) : Option AV := match x with | some (v, _) => some v | none => none
noncomputable def EL : Env := envEx Try.prog [0, 3, 4, 28, 48, 49, 51, 52, 54, 57, 73, 89, 91] [(6, Try.f6), (20, Try.f20), (23, Try.f23), (25, Try.f25), (46, Try.f46)] []
noncomputable def smG (q : CallT) : CallT := onlyC [21, 22, 24, 26, 27, 28] q
noncomputable def flL : List (Nat × Fl) := [(20, ⟨[4, 5], [], [], []⟩), (23, fl0), (25, ⟨[16], [8], [], []⟩), (46, fl0)]
noncomputable def c6 : Code := Option.getD Try.f6.body .skip
noncomputable def F6 (g : Int) (A : AV) (a b : Int) : AFr := { m := putArgs [gU g, A, gU a, gU b] 0 .e, n := 136, defs := [] }
noncomputable def fG3 (a b : Int) : AFr := xFr [(2, gU a), (3, gU b), (8, .bool false), (9, pO 1)] 136
noncomputable def fG5 (a b z : Int) (w : Bool) : AFr := xFr [(2, gU a), (3, gU b), (8, .bool false), (9, pO 1), (11, gU z), (12, .bool w)] 136
noncomputable def fG6 (a b z : Int) (w : Bool) (V : AV) : AFr := xFr [(2, gU a), (3, gU b), (8, .bool false), (9, pO 1), (11, gU z), (12, .bool w), (15, V)] 136
noncomputable def fG7 (a b z : Int) (V : AV) : AFr := xFr [(2, gU a), (3, gU b), (8, .bool false), (9, pO 1), (11, gU z), (15, V)] 136
def vX (k n : Nat) (c : Cap) : AV := .slice (some (k, 0)) n c
noncomputable def fG8 (z : Int) (n m : Nat) (c c' : Cap) : AFr := xFr [(8, .bool false), (11, gU z), (16, vX 1 n c), (17, vX 2 m c')] 136
noncomputable def fG9 (n m : Nat) (c c' : Cap) (i k : Nat) : AFr := xFr [(8, .bool false), (16, vX 1 n c), (17, vX 2 m c'), (18, nI i), (19, nI k)] 136
noncomputable def fG10 (n m : Nat) (c c' : Cap) (i k j : Nat) : AFr := xFr [(8, .bool false), (16, vX 1 n c), (17, vX 2 m c'), (18, nI i), (19, nI k), (20, nI j)] 136
noncomputable def SX (O V : AO) (M R X : AO) : ASt := mkSt [(0, O), (1, V), (2, M), (3, R), (4, X)] 5
noncomputable def SY (O X Y : AO) : ASt := mkSt [(0, O), (1, X), (2, Y)] 3
noncomputable def L6 : Code := lopB (blkB (seqR (seqL (dropC 12 c6))))
noncomputable def tG1 (q : CallT) (g : Int) (A : AV) (a b : Int) (O : AO) (n : Nat) : Tr (Exit × AFr × ASt) := (TM EL (smG q) flL fl0 60).ex ⟨[23], [22], [], []⟩ none (preC 3 c6) (F6 g A a b) (S0 O)
noncomputable def tG2 (q : CallT) (g : Int) (A : AV) (a b : Int) (O : AO) (n : Nat) : Tr (Exit × AFr × ASt) := (TM EL (smG q) flL fl0 60).ex ⟨[27, 36], [22, 31], [], []⟩ none (preC 3 c6) (F6 g A a b) (S0 O)
noncomputable def tG2b (q : CallT) (g : Int) (A : AV) (a b : Int) (O : AO) (n : Nat) : Tr (Exit × AFr × ASt) := (TM EL (smG q) flL fl0 60).ex ⟨[27, 36], [22, 31], [], []⟩ none (preC 3 c6) (F6 g A a b) (S0 O)
noncomputable def tG3 (q : CallT) (g : Int) (A : AV) (a b : Int) (O : AO) (n : Nat) (V : AV) (M R : AO) : Tr (Exit × AFr × ASt) := (TM EL (smG q) flL fl0 60).ex ⟨[27, 36], [22, 31], [], []⟩ none (preC 3 c6) (F6 g A a b) (S0 O)
noncomputable def tH000 (q : CallT) (a b z p p2 : Int) (O : AO) (V : AV) (M R : AO) : Tr (Exit × AFr × ASt) := (TM EL (smG q) flL fl0 60).ex ⟨[42, 49, 54], [64, 68], [], []⟩ none (preC 2 (dropC 3 c6)) (fG3 a b) (SO O V M R)
noncomputable def tH100 (q : CallT) (a b z p p2 : Int) (O : AO) (V : AV) (M R : AO) : Tr (Exit × AFr × ASt) := (TM EL (smG q) flL fl0 60).ex ⟨[42, 49, 54], [64, 68], [], []⟩ none (preC 2 (dropC 3 c6)) (fG3 a b) (SO O V M R)
noncomputable def tH111 (q : CallT) (a b z p p2 : Int) (O : AO) (V : AV) (M R : AO) : Tr (Exit × AFr × ASt) := (TM EL (smG q) flL fl0 60).ex ⟨[42, 49, 54], [64, 68], [], []⟩ none (preC 2 (dropC 3 c6)) (fG3 a b) (SO O V M R)
noncomputable def tJ0 (q : CallT) (a b z : Int) (O : AO) (V : AV) (M R : AO) : Tr (Exit × AFr × ASt) := (TM EL (smG q) flL fl0 60).ex ⟨[74], [], [], []⟩ none (preC 1 (dropC 6 c6)) (fG5 a b z false) (SO O V M R)
noncomputable def tK0 (q : CallT) (a b z u : Int) (O : AO) (V : AV) (M R X X2 : AO) (m : Nat) (W V2 : AV) : Tr (Exit × AFr × ASt) := (TM EL (smG q) flL fl0 60).ex ⟨[74, 77, 80, 83, 84, 85, 86], [], [], []⟩ none (preC 1 (dropC 6 c6)) (fG5 a b z false) (SO O V M R)
noncomputable def tJ1 (q : CallT) (a b z : Int) (O : AO) (V : AV) (M R : AO) : Tr (Exit × AFr × ASt) := (TM EL (smG q) flL fl0 60).ex ⟨[74], [], [], []⟩ none (preC 1 (dropC 6 c6)) (fG5 a b z true) (SO O V M R)
noncomputable def tK1 (q : CallT) (a b z u : Int) (O : AO) (V : AV) (M R X X2 : AO) (m : Nat) (W V2 : AV) : Tr (Exit × AFr × ASt) := (TM EL (smG q) flL fl0 60).ex ⟨[74, 77, 80, 83, 84, 85, 86], [], [], []⟩ none (preC 1 (dropC 6 c6)) (fG5 a b z true) (SO O V M R)
noncomputable def tN0 (q : CallT) (a b z : Int) (O : AO) (V : AV) (M R X : AO) (U : AV) : Tr (Exit × AFr × ASt) := (TM EL (smG q) flL fl0 60).ex ⟨[91], [], [], []⟩ none (preC 0 (dropC 8 c6)) (fG6 a b z false U) (SX O (tA V) M R X)
noncomputable def tN1 (q : CallT) (a b z : Int) (O : AO) (V : AV) (M R X : AO) (U : AV) : Tr (Exit × AFr × ASt) := (TM EL (smG q) flL fl0 60).ex ⟨[91], [], [], []⟩ none (preC 0 (dropC 8 c6)) (fG6 a b z true U) (SX O (tA V) M R X)
noncomputable def tQ00 (q : CallT) (a b z : Int) (O : AO) (V : AV) (M R X X2 Yx Yy : AO) (n m : Nat) (V2 : AV) : Tr (Exit × AFr × ASt) := (TM EL (smG q) flL fl0 60).ex ⟨[95, 100, 101], [], [], []⟩ none (preC 0 (dropC 9 c6)) (fG7 a b z nilA) (SX O (tA V) M R X)
noncomputable def tQ01 (q : CallT) (a b z : Int) (O : AO) (V : AV) (M R X X2 Yx Yy : AO) (n m : Nat) (V2 : AV) : Tr (Exit × AFr × ASt) := (TM EL (smG q) flL fl0 60).ex ⟨[95, 100, 101], [], [], []⟩ none (preC 0 (dropC 9 c6)) (fG7 a b z nilA) (SX O (tA V) M R X)
noncomputable def tQ10 (q : CallT) (a b z : Int) (O : AO) (V : AV) (M R X X2 Yx Yy : AO) (n m : Nat) (V2 : AV) : Tr (Exit × AFr × ASt) := (TM EL (smG q) flL fl0 60).ex ⟨[95, 100, 101], [], [], []⟩ none (preC 0 (dropC 9 c6)) (fG7 a b z (slU 4 n)) (SX O (tA V) M R X)
noncomputable def tQ11 (q : CallT) (a b z : Int) (O : AO) (V : AV) (M R X X2 Yx Yy : AO) (n m : Nat) (V2 : AV) : Tr (Exit × AFr × ASt) := (TM EL (smG q) flL fl0 60).ex ⟨[95, 100, 101], [], [], []⟩ none (preC 0 (dropC 9 c6)) (fG7 a b z (slU 4 n)) (SX O (tA V) M R X)
noncomputable def tW (q : CallT) (z : Int) (O X Y : AO) (n m : Nat) (c c' : Cap) (i k : Nat) : Tr (Exit × AFr × ASt) := (TM EL (smG q) flL fl0 60).ex ⟨[104, 107, 109, 112], [], [], []⟩ none (preC 1 (dropC 10 c6)) (fG8 z n m c c') (SY O X Y)
noncomputable def tXr (q : CallT) (O X Y : AO) (n m : Nat) (c c' : Cap) (i k j : Nat) (r : Int) : Tr (Exit × AFr × ASt) := (TM EL (smG q) flL fl0 60).ex ⟨[122, 123, 124, 125], [], [116], []⟩ none L6 (fG10 n m c c' i k j) (SY O X Y)
noncomputable def tZ (q : CallT) (O X Y : AO) (n m : Nat) (c c' : Cap) (i k : Nat) (W W2 : AV) : Tr (Exit × AFr × ASt) := (TM EL (smG q) flL fl0 60).ex ⟨[128, 131, 132, 134], [], [], []⟩ none (dropC 13 c6) (fG9 n m c c' i k) (SY O X Y)
noncomputable def vcG1_s0 (O : AO) : ASt := mkSt [(0, O)] 1
theorem vcG1 (q : CallT) (g : Int) (A : AV) (a : Int) (b : Int) (O : AO) (n : Nat) (Q : Exit × Option AV → Prop) :
  (aBuiltinM EL .len [49] [A] (vcG1_s0 O) = some (.int .i64 (.ofNat n), vcG1_s0 O) ∧ still (vcG1_s0 O) (aBin EL .gtr 3 (.tmp 4) (.const (.int .i64 60)) (.int .i64 (.ofNat n)) (.int .i64 (.ofNat 60))) = some (.bool true, vcG1_s0 O) ∧ (M EL (drawA EL) (smG q) 54).call 21 [] (vcG1_s0 O) = some (.bool true, vcG1_s0 O) ∧ Q (.ret, some (.bool true))) =
  (tG1 q g A a b O n).allY (fun r => Q (r.1, ans (leaveA EL Try.f6 r.2.1 r.2.2))) (.v (.int .i64 (.ofNat n), vcG1_s0 O) (.v (.bool true, vcG1_s0 O) (.v (.bool true, vcG1_s0 O) .nil))) := by kernel_rfl
noncomputable def vcG2_s0 (O : AO) : ASt := mkSt [(0, O)] 1
noncomputable def vcG2_s1 (O : AO) : ASt := mkSt [(0, O)] 101
theorem vcG2 (q : CallT) (g : Int) (A : AV) (a : Int) (b : Int) (O : AO) (n : Nat) (Q : Exit × Option AV → Prop) :
  (aBuiltinM EL .len [49] [A] (vcG2_s0 O) = some (.int .i64 (.ofNat n), vcG2_s0 O) ∧ still (vcG2_s0 O) (aBin EL .gtr 3 (.tmp 4) (.const (.int .i64 60)) (.int .i64 (.ofNat n)) (.int .i64 (.ofNat 60))) = some (.bool false, vcG2_s0 O) ∧ (M EL (drawA EL) (smG q) 56).call 22 [.int .u64 g, A] (vcG2_s0 O) = some (.tuple [.ptr none, .int .i64 (.ofNat 2)], vcG2_s1 O) ∧ (M EL (drawA EL) (smG q) 53).call 21 [] (vcG2_s1 O) = some (.bool true, vcG2_s1 O) ∧ Q (.ret, some (.bool true))) =
  (tG2 q g A a b O n).allY (fun r => Q (r.1, ans (leaveA EL Try.f6 r.2.1 r.2.2))) (.v (.int .i64 (.ofNat n), vcG2_s0 O) (.v (.bool false, vcG2_s0 O) (.v (.tuple [.ptr none, .int .i64 (.ofNat 2)], vcG2_s1 O) (.v (.bool true, vcG2_s1 O) .nil)))) := by kernel_rfl
noncomputable def vcG2b_s0 (O : AO) : ASt := mkSt [(0, O)] 1
noncomputable def vcG2b_s1 (O : AO) : ASt := mkSt [(0, O)] 101
theorem vcG2b (q : CallT) (g : Int) (A : AV) (a : Int) (b : Int) (O : AO) (n : Nat) (Q : Exit × Option AV → Prop) :
  (aBuiltinM EL .len [49] [A] (vcG2b_s0 O) = some (.int .i64 (.ofNat n), vcG2b_s0 O) ∧ still (vcG2b_s0 O) (aBin EL .gtr 3 (.tmp 4) (.const (.int .i64 60)) (.int .i64 (.ofNat n)) (.int .i64 (.ofNat 60))) = some (.bool false, vcG2b_s0 O) ∧ (M EL (drawA EL) (smG q) 56).call 22 [.int .u64 g, A] (vcG2b_s0 O) = some (.tuple [.ptr none, .int .i64 (.ofNat 6)], vcG2b_s1 O) ∧ (M EL (drawA EL) (smG q) 53).call 21 [] (vcG2b_s1 O) = some (.bool true, vcG2b_s1 O) ∧ Q (.ret, some (.bool true))) =
  (tG2b q g A a b O n).allY (fun r => Q (r.1, ans (leaveA EL Try.f6 r.2.1 r.2.2))) (.v (.int .i64 (.ofNat n), vcG2b_s0 O) (.v (.bool false, vcG2b_s0 O) (.v (.tuple [.ptr none, .int .i64 (.ofNat 6)], vcG2b_s1 O) (.v (.bool true, vcG2b_s1 O) .nil)))) := by kernel_rfl
noncomputable def vcG3_s0 (O : AO) : ASt := mkSt [(0, O)] 1
noncomputable def vcG3_s1 (O : AO) (V : AV) (M : AO) (R : AO) : ASt := mkSt [(0, O), (2, .cells [.map (some 3), V] true), (3, M), (4, R)] 101
theorem vcG3 (q : CallT) (g : Int) (A : AV) (a : Int) (b : Int) (O : AO) (n : Nat) (V : AV) (M : AO) (R : AO) (Q : Exit × AFr × ASt → Prop) :
  (aBuiltinM EL .len [49] [A] (vcG3_s0 O) = some (.int .i64 (.ofNat n), vcG3_s0 O) ∧ still (vcG3_s0 O) (aBin EL .gtr 3 (.tmp 4) (.const (.int .i64 60)) (.int .i64 (.ofNat n)) (.int .i64 (.ofNat 60))) = some (.bool false, vcG3_s0 O) ∧ (Ax.M EL (drawA EL) (smG q) 56).call 22 [.int .u64 g, A] (vcG3_s0 O) = some (.tuple [.ptr (some (2, 0)), .int .i64 (.ofNat 0)], vcG3_s1 O V M R) ∧ Q (.normal, xFr [(2, .int .u64 a), (3, .int .u64 b), (8, .bool false), (9, .ptr (some (2, 0)))] 136, vcG3_s1 O V M R)) =
  (tG3 q g A a b O n V M R).allY (fun r => Q (canR [2, 3, 8, 9] KO260 r)) (.v (.int .i64 (.ofNat n), vcG3_s0 O) (.v (.bool false, vcG3_s0 O) (.v (.tuple [.ptr (some (2, 0)), .int .i64 (.ofNat 0)], vcG3_s1 O V M R) .nil))) := by kernel_rfl
noncomputable def vcH000_s0 (O : AO) (V : AV) (M : AO) (R : AO) : ASt := mkSt [(0, O), (1, .cells [.map (some 2), V] true), (2, M), (3, R)] 4
noncomputable def vcH000_s1 (O : AO) (V : AV) (M : AO) (R : AO) : ASt := mkSt [(0, O), (1, .cells [.map (some 2), V] true), (2, M), (3, R)] 114
noncomputable def vcH000_s2 (O : AO) (V : AV) (M : AO) (R : AO) : ASt := mkSt [(0, O), (1, .cells [.map (some 2), V] true), (2, M), (3, R)] 224
theorem vcH000 (q : CallT) (a : Int) (b : Int) (z : Int) (p : Int) (p2 : Int) (O : AO) (V : AV) (M : AO) (R : AO) (Q : Exit × AFr × ASt → Prop) :
  ((Ax.M EL (drawA EL) (smG q) 58).call 24 [.ptr (some (1, 0)), .int .u64 a, .int .u64 b] (vcH000_s0 O V M R) = some (.tuple [.int .u64 z, .bool false], vcH000_s1 O V M R) ∧ (Ax.M EL (drawA EL) (smG q) 57).call 24 [.ptr (some (1, 0)), .int .u64 b, .int .u64 a] (vcH000_s1 O V M R) = some (.tuple [.int .u64 z, .bool false], vcH000_s2 O V M R) ∧ still (vcH000_s2 O V M R) (aBin EL .neq 48 (.tmp 52) (.tmp 53) (.int .u64 z) (.int .u64 z)) = some (.bool false, vcH000_s2 O V M R) ∧ still (vcH000_s2 O V M R) (aLookup EL 89 (.map (some 2)) (.int .u64 a) true (vcH000_s2 O V M R)) = some (.tuple [.int .u64 (.ofNat 0), .bool false], vcH000_s2 O V M R) ∧ Q (.normal, xFr [(2, .int .u64 a), (3, .int .u64 b), (8, .bool false), (9, .ptr (some (1, 0))), (11, .int .u64 z), (12, .bool false)] 136, vcH000_s2 O V M R)) =
  (tH000 q a b z p p2 O V M R).allY (fun r => Q (canR [2, 3, 8, 9, 11, 12] KO260 r)) (.v (.tuple [.int .u64 z, .bool false], vcH000_s1 O V M R) (.v (.tuple [.int .u64 z, .bool false], vcH000_s2 O V M R) (.v (.bool false, vcH000_s2 O V M R) (.v (.tuple [.int .u64 (.ofNat 0), .bool false], vcH000_s2 O V M R) .nil)))) := by kernel_rfl
noncomputable def vcH100_s0 (O : AO) (V : AV) (M : AO) (R : AO) : ASt := mkSt [(0, O), (1, .cells [.map (some 2), V] true), (2, M), (3, R)] 4
noncomputable def vcH100_s1 (O : AO) (V : AV) (M : AO) (R : AO) : ASt := mkSt [(0, O), (1, .cells [.map (some 2), V] true), (2, M), (3, R)] 114
noncomputable def vcH100_s2 (O : AO) (V : AV) (M : AO) (R : AO) : ASt := mkSt [(0, O), (1, .cells [.map (some 2), V] true), (2, M), (3, R)] 224
theorem vcH100 (q : CallT) (a : Int) (b : Int) (z : Int) (p : Int) (p2 : Int) (O : AO) (V : AV) (M : AO) (R : AO) (Q : Exit × AFr × ASt → Prop) :
  ((Ax.M EL (drawA EL) (smG q) 58).call 24 [.ptr (some (1, 0)), .int .u64 a, .int .u64 b] (vcH100_s0 O V M R) = some (.tuple [.int .u64 z, .bool false], vcH100_s1 O V M R) ∧ (Ax.M EL (drawA EL) (smG q) 57).call 24 [.ptr (some (1, 0)), .int .u64 b, .int .u64 a] (vcH100_s1 O V M R) = some (.tuple [.int .u64 z, .bool false], vcH100_s2 O V M R) ∧ still (vcH100_s2 O V M R) (aBin EL .neq 48 (.tmp 52) (.tmp 53) (.int .u64 z) (.int .u64 z)) = some (.bool false, vcH100_s2 O V M R) ∧ still (vcH100_s2 O V M R) (aLookup EL 89 (.map (some 2)) (.int .u64 a) true (vcH100_s2 O V M R)) = some (.tuple [.int .u64 p, .bool true], vcH100_s2 O V M R) ∧ still (vcH100_s2 O V M R) (aLookup EL 89 (.map (some 2)) (.int .u64 b) true (vcH100_s2 O V M R)) = some (.tuple [.int .u64 (.ofNat 0), .bool false], vcH100_s2 O V M R) ∧ Q (.normal, xFr [(2, .int .u64 a), (3, .int .u64 b), (8, .bool false), (9, .ptr (some (1, 0))), (11, .int .u64 z), (12, .bool false)] 136, vcH100_s2 O V M R)) =
  (tH100 q a b z p p2 O V M R).allY (fun r => Q (canR [2, 3, 8, 9, 11, 12] KO260 r)) (.v (.tuple [.int .u64 z, .bool false], vcH100_s1 O V M R) (.v (.tuple [.int .u64 z, .bool false], vcH100_s2 O V M R) (.v (.bool false, vcH100_s2 O V M R) (.v (.tuple [.int .u64 p, .bool true], vcH100_s2 O V M R) (.v (.tuple [.int .u64 (.ofNat 0), .bool false], vcH100_s2 O V M R) .nil))))) := by kernel_rfl
noncomputable def vcH111_s0 (O : AO) (V : AV) (M : AO) (R : AO) : ASt := mkSt [(0, O), (1, .cells [.map (some 2), V] true), (2, M), (3, R)] 4
noncomputable def vcH111_s1 (O : AO) (V : AV) (M : AO) (R : AO) : ASt := mkSt [(0, O), (1, .cells [.map (some 2), V] true), (2, M), (3, R)] 114
noncomputable def vcH111_s2 (O : AO) (V : AV) (M : AO) (R : AO) : ASt := mkSt [(0, O), (1, .cells [.map (some 2), V] true), (2, M), (3, R)] 224
theorem vcH111 (q : CallT) (a : Int) (b : Int) (z : Int) (p : Int) (p2 : Int) (O : AO) (V : AV) (M : AO) (R : AO) (Q : Exit × AFr × ASt → Prop) :
  ((Ax.M EL (drawA EL) (smG q) 58).call 24 [.ptr (some (1, 0)), .int .u64 a, .int .u64 b] (vcH111_s0 O V M R) = some (.tuple [.int .u64 z, .bool true], vcH111_s1 O V M R) ∧ (Ax.M EL (drawA EL) (smG q) 57).call 24 [.ptr (some (1, 0)), .int .u64 b, .int .u64 a] (vcH111_s1 O V M R) = some (.tuple [.int .u64 z, .bool true], vcH111_s2 O V M R) ∧ still (vcH111_s2 O V M R) (aBin EL .neq 48 (.tmp 52) (.tmp 53) (.int .u64 z) (.int .u64 z)) = some (.bool false, vcH111_s2 O V M R) ∧ still (vcH111_s2 O V M R) (aLookup EL 89 (.map (some 2)) (.int .u64 a) true (vcH111_s2 O V M R)) = some (.tuple [.int .u64 p, .bool true], vcH111_s2 O V M R) ∧ still (vcH111_s2 O V M R) (aLookup EL 89 (.map (some 2)) (.int .u64 b) true (vcH111_s2 O V M R)) = some (.tuple [.int .u64 p2, .bool true], vcH111_s2 O V M R) ∧ Q (.normal, xFr [(2, .int .u64 a), (3, .int .u64 b), (8, .bool false), (9, .ptr (some (1, 0))), (11, .int .u64 z), (12, .bool true)] 136, vcH111_s2 O V M R)) =
  (tH111 q a b z p p2 O V M R).allY (fun r => Q (canR [2, 3, 8, 9, 11, 12] KO260 r)) (.v (.tuple [.int .u64 z, .bool true], vcH111_s1 O V M R) (.v (.tuple [.int .u64 z, .bool true], vcH111_s2 O V M R) (.v (.bool false, vcH111_s2 O V M R) (.v (.tuple [.int .u64 p, .bool true], vcH111_s2 O V M R) (.v (.tuple [.int .u64 p2, .bool true], vcH111_s2 O V M R) .nil))))) := by kernel_rfl
noncomputable def vcJ0_s0 (O : AO) (V : AV) (M : AO) (R : AO) : ASt := mkSt [(0, O), (1, .cells [.map (some 2), V] true), (2, M), (3, R)] 4
noncomputable def vcJ0_s1 (O : AO) (V : AV) (M : AO) (R : AO) : ASt := mkSt [(0, O), (1, .cells [.map (some 2), V] true), (2, M), (3, R), (20, .dead)] 114
noncomputable def vcJ0_s2 (O : AO) (V : AV) (M : AO) (R : AO) : ASt := mkSt [(0, O), (1, .cells [.map (some 2), V] true), (2, M), (3, R), (20, .dead)] 128
theorem vcJ0 (q : CallT) (a : Int) (b : Int) (z : Int) (O : AO) (V : AV) (M : AO) (R : AO) (Q : Exit × AFr × ASt → Prop) :
  ((Ax.M EL (drawA EL) (smG q) 58).call 26 [.ptr (some (1, 0)), .int .u64 a] (vcJ0_s0 O V M R) = some (.slice none 0 (.known 0), vcJ0_s1 O V M R) ∧ Q (.normal, xFr [(2, .int .u64 a), (3, .int .u64 b), (8, .bool false), (9, .ptr (some (1, 0))), (11, .int .u64 z), (12, .bool false), (15, .slice none 0 (.known 0))] 136, vcJ0_s2 O V M R)) =
  (tJ0 q a b z O V M R).allY (fun r => Q (canR [2, 3, 8, 9, 11, 12, 15] KO260 r)) (.v (.slice none 0 (.known 0), vcJ0_s1 O V M R) .nil) := by kernel_rfl
noncomputable def vcK0_s0 (O : AO) (V : AV) (M : AO) (R : AO) : ASt := mkSt [(0, O), (1, .cells [.map (some 2), V] true), (2, M), (3, R)] 4
noncomputable def vcK0_s1 (O : AO) (V : AV) (M : AO) (R : AO) (X : AO) : ASt := mkSt [(0, O), (1, .cells [.map (some 2), V] true), (2, M), (3, R), (20, X)] 114
noncomputable def vcK0_s2 (O : AO) (V : AV) (M : AO) (R : AO) (X : AO) : ASt := mkSt [(0, O), (1, .cells [.map (some 2), V] true), (2, M), (3, R), (20, X)] 128
noncomputable def vcK0_s3 (O : AO) (V : AV) (M : AO) (R : AO) (X : AO) (X2 : AO) : ASt := mkSt [(0, O), (1, .cells [.map (some 2), V] true), (2, M), (3, R), (20, X), (144, X2)] 238
theorem vcK0 (q : CallT) (a : Int) (b : Int) (z : Int) (u : Int) (O : AO) (V : AV) (M : AO) (R : AO) (X : AO) (X2 : AO) (m : Nat) (W : AV) (V2 : AV) (Q : Exit × AFr × ASt → Prop) :
  ((Ax.M EL (drawA EL) (smG q) 58).call 26 [.ptr (some (1, 0)), .int .u64 a] (vcK0_s0 O V M R) = some (.slice (some (20, 0)) (m + 1) (.rest 1), vcK0_s1 O V M R X) ∧ still (vcK0_s2 O V M R X) (aBin EL .gtr 3 (.tmp 76) (.const (.int .i64 0)) (.int .i64 (.ofNat (m + 1))) (.int .i64 (.ofNat 0))) = some (.bool true, vcK0_s2 O V M R X) ∧ still (vcK0_s2 O V M R X) (aSlice EL 57 (.slice (some (20, 0)) (m + 1) (.rest 1)) (some (.int .i64 (.ofNat 1))) none none (vcK0_s2 O V M R X)) = some (W, vcK0_s2 O V M R X) ∧ still (vcK0_s2 O V M R X) (aIndexAddr EL 57 (.slice (some (20, 0)) (m + 1) (.rest 1)) (.int .i64 (.ofNat 0))) = some (.ptr (some (20, 0)), vcK0_s2 O V M R X) ∧ aLoad EL 48 (.ptr (some (20, 0))) (vcK0_s2 O V M R X) = some (.int .u64 u, vcK0_s2 O V M R X) ∧ (Ax.M EL (drawA EL) (smG q) 57).call 26 [.ptr (some (1, 0)), .int .u64 u] (vcK0_s2 O V M R X) = some (V2, vcK0_s3 O V M R X X2) ∧ (Ax.M EL (drawA EL) (smG q) 57).call 27 [W, V2] (vcK0_s3 O V M R X X2) = some (.bool true, vcK0_s3 O V M R X X2) ∧ holdsO [(fstO (still (vcK0_s3 O V M R X X2) (aSlice EL 57 (.slice (some (20, 0)) (m + 1) (.rest 1)) (some (.int .i64 (.ofNat 1))) none none (vcK0_s3 O V M R X X2))), W)] ∧ Q (.normal, xFr [(2, .int .u64 a), (3, .int .u64 b), (8, .bool false), (9, .ptr (some (1, 0))), (11, .int .u64 z), (12, .bool false), (15, .slice (some (20, 0)) (m + 1) (.rest 1))] 136, vcK0_s3 O V M R X X2)) =
  (tK0 q a b z u O V M R X X2 m W V2).allY (fun r => Q (canR [2, 3, 8, 9, 11, 12, 15] KO260 r)) (.v (.slice (some (20, 0)) (m + 1) (.rest 1), vcK0_s1 O V M R X) (.v (.bool true, vcK0_s2 O V M R X) (.v (W, vcK0_s2 O V M R X) (.v (.ptr (some (20, 0)), vcK0_s2 O V M R X) (.v (.int .u64 u, vcK0_s2 O V M R X) (.v (V2, vcK0_s3 O V M R X X2) (.v (.bool true, vcK0_s3 O V M R X X2) .nil))))))) := by kernel_rfl
noncomputable def vcJ1_s0 (O : AO) (V : AV) (M : AO) (R : AO) : ASt := mkSt [(0, O), (1, .cells [.map (some 2), V] true), (2, M), (3, R)] 4
noncomputable def vcJ1_s1 (O : AO) (V : AV) (M : AO) (R : AO) : ASt := mkSt [(0, O), (1, .cells [.map (some 2), V] true), (2, M), (3, R), (20, .dead)] 114
noncomputable def vcJ1_s2 (O : AO) (V : AV) (M : AO) (R : AO) : ASt := mkSt [(0, O), (1, .cells [.map (some 2), V] true), (2, M), (3, R), (20, .dead)] 128
theorem vcJ1 (q : CallT) (a : Int) (b : Int) (z : Int) (O : AO) (V : AV) (M : AO) (R : AO) (Q : Exit × AFr × ASt → Prop) :
  ((Ax.M EL (drawA EL) (smG q) 58).call 26 [.ptr (some (1, 0)), .int .u64 a] (vcJ1_s0 O V M R) = some (.slice none 0 (.known 0), vcJ1_s1 O V M R) ∧ Q (.normal, xFr [(2, .int .u64 a), (3, .int .u64 b), (8, .bool false), (9, .ptr (some (1, 0))), (11, .int .u64 z), (12, .bool true), (15, .slice none 0 (.known 0))] 136, vcJ1_s2 O V M R)) =
  (tJ1 q a b z O V M R).allY (fun r => Q (canR [2, 3, 8, 9, 11, 12, 15] KO260 r)) (.v (.slice none 0 (.known 0), vcJ1_s1 O V M R) .nil) := by kernel_rfl
noncomputable def vcK1_s0 (O : AO) (V : AV) (M : AO) (R : AO) : ASt := mkSt [(0, O), (1, .cells [.map (some 2), V] true), (2, M), (3, R)] 4
noncomputable def vcK1_s1 (O : AO) (V : AV) (M : AO) (R : AO) (X : AO) : ASt := mkSt [(0, O), (1, .cells [.map (some 2), V] true), (2, M), (3, R), (20, X)] 114
noncomputable def vcK1_s2 (O : AO) (V : AV) (M : AO) (R : AO) (X : AO) : ASt := mkSt [(0, O), (1, .cells [.map (some 2), V] true), (2, M), (3, R), (20, X)] 128
noncomputable def vcK1_s3 (O : AO) (V : AV) (M : AO) (R : AO) (X : AO) (X2 : AO) : ASt := mkSt [(0, O), (1, .cells [.map (some 2), V] true), (2, M), (3, R), (20, X), (144, X2)] 238
theorem vcK1 (q : CallT) (a : Int) (b : Int) (z : Int) (u : Int) (O : AO) (V : AV) (M : AO) (R : AO) (X : AO) (X2 : AO) (m : Nat) (W : AV) (V2 : AV) (Q : Exit × AFr × ASt → Prop) :
  ((Ax.M EL (drawA EL) (smG q) 58).call 26 [.ptr (some (1, 0)), .int .u64 a] (vcK1_s0 O V M R) = some (.slice (some (20, 0)) (m + 1) (.rest 1), vcK1_s1 O V M R X) ∧ still (vcK1_s2 O V M R X) (aBin EL .gtr 3 (.tmp 76) (.const (.int .i64 0)) (.int .i64 (.ofNat (m + 1))) (.int .i64 (.ofNat 0))) = some (.bool true, vcK1_s2 O V M R X) ∧ still (vcK1_s2 O V M R X) (aSlice EL 57 (.slice (some (20, 0)) (m + 1) (.rest 1)) (some (.int .i64 (.ofNat 1))) none none (vcK1_s2 O V M R X)) = some (W, vcK1_s2 O V M R X) ∧ still (vcK1_s2 O V M R X) (aIndexAddr EL 57 (.slice (some (20, 0)) (m + 1) (.rest 1)) (.int .i64 (.ofNat 0))) = some (.ptr (some (20, 0)), vcK1_s2 O V M R X) ∧ aLoad EL 48 (.ptr (some (20, 0))) (vcK1_s2 O V M R X) = some (.int .u64 u, vcK1_s2 O V M R X) ∧ (Ax.M EL (drawA EL) (smG q) 57).call 26 [.ptr (some (1, 0)), .int .u64 u] (vcK1_s2 O V M R X) = some (V2, vcK1_s3 O V M R X X2) ∧ (Ax.M EL (drawA EL) (smG q) 57).call 27 [W, V2] (vcK1_s3 O V M R X X2) = some (.bool true, vcK1_s3 O V M R X X2) ∧ holdsO [(fstO (still (vcK1_s3 O V M R X X2) (aSlice EL 57 (.slice (some (20, 0)) (m + 1) (.rest 1)) (some (.int .i64 (.ofNat 1))) none none (vcK1_s3 O V M R X X2))), W)] ∧ Q (.normal, xFr [(2, .int .u64 a), (3, .int .u64 b), (8, .bool false), (9, .ptr (some (1, 0))), (11, .int .u64 z), (12, .bool true), (15, .slice (some (20, 0)) (m + 1) (.rest 1))] 136, vcK1_s3 O V M R X X2)) =
  (tK1 q a b z u O V M R X X2 m W V2).allY (fun r => Q (canR [2, 3, 8, 9, 11, 12, 15] KO260 r)) (.v (.slice (some (20, 0)) (m + 1) (.rest 1), vcK1_s1 O V M R X) (.v (.bool true, vcK1_s2 O V M R X) (.v (W, vcK1_s2 O V M R X) (.v (.ptr (some (20, 0)), vcK1_s2 O V M R X) (.v (.int .u64 u, vcK1_s2 O V M R X) (.v (V2, vcK1_s3 O V M R X X2) (.v (.bool true, vcK1_s3 O V M R X X2) .nil))))))) := by kernel_rfl
noncomputable def vcN0_s0 (O : AO) (V : AV) (M : AO) (R : AO) (X : AO) : ASt := mkSt [(0, O), (1, .cells [.map (some 2), V] true), (2, M), (3, R), (4, X)] 5
theorem vcN0 (q : CallT) (a : Int) (b : Int) (z : Int) (O : AO) (V : AV) (M : AO) (R : AO) (X : AO) (U : AV) (Q : Exit × Option AV → Prop) :
  ((Ax.M EL (drawA EL) (smG q) 56).call 21 [] (vcN0_s0 O V M R X) = some (.bool true, vcN0_s0 O V M R X) ∧ Q (.ret, some (.bool true))) =
  (tN0 q a b z O V M R X U).allY (fun r => Q (r.1, ans (leaveA EL Try.f6 r.2.1 r.2.2))) (.v (.bool true, vcN0_s0 O V M R X) .nil) := by kernel_rfl
noncomputable def vcN1_s0 (O : AO) (V : AV) (M : AO) (R : AO) (X : AO) : ASt := mkSt [(0, O), (1, .cells [.map (some 2), V] true), (2, M), (3, R), (4, X)] 5
theorem vcN1 (q : CallT) (a : Int) (b : Int) (z : Int) (O : AO) (V : AV) (M : AO) (R : AO) (X : AO) (U : AV) (Q : Exit × AFr × ASt → Prop) :
  (Q (.normal, xFr [(2, .int .u64 a), (3, .int .u64 b), (8, .bool false), (9, .ptr (some (1, 0))), (11, .int .u64 z), (15, U)] 136, vcN1_s0 O V M R X)) =
  (tN1 q a b z O V M R X U).allY (fun r => Q (canR [2, 3, 8, 9, 11, 15] KO260 r)) (.nil) := by kernel_rfl
noncomputable def vcQ00_s0 (a : Int) (O : AO) (V : AV) (M : AO) (R : AO) (X : AO) : ASt := mkSt [(0, O), (1, .cells [.map (some 2), V] true), (2, M), (3, R), (4, X), (5, .cells [.int .u64 a] true)] 6
noncomputable def vcQ00_s1 (a : Int) (b : Int) (O : AO) (V : AV) (M : AO) (R : AO) (X : AO) : ASt := mkSt [(0, O), (1, .cells [.map (some 2), V] true), (2, M), (3, R), (4, X), (5, .cells [.int .u64 a] true), (6, .cells [.int .u64 b] true)] 7
noncomputable def vcQ00_s2 (a : Int) (b : Int) (O : AO) (V : AV) (M : AO) (R : AO) (X : AO) : ASt := mkSt [(0, O), (1, .cells [.map (some 2), V] true), (2, M), (3, R), (4, X), (5, .cells [.int .u64 a] true), (6, .cells [.int .u64 b] true), (23, .dead)] 117
theorem vcQ00 (q : CallT) (a : Int) (b : Int) (z : Int) (O : AO) (V : AV) (M : AO) (R : AO) (X : AO) (X2 : AO) (Yx : AO) (Yy : AO) (n : Nat) (m : Nat) (V2 : AV) (Q : Exit × AFr × ASt → Prop) :
  (aBuiltinM EL .append [57, 57] [.slice (some (5, 0)) 1 (.known 1), .slice none 0 (.known 0)] (vcQ00_s0 a O V M R X) = some (.slice (some (5, 0)) 1 (.known 1), vcQ00_s0 a O V M R X) ∧ (Ax.M EL (drawA EL) (smG q) 59).call 26 [.ptr (some (1, 0)), .int .u64 b] (vcQ00_s1 a b O V M R X) = some (.slice none 0 (.known 0), vcQ00_s2 a b O V M R X) ∧ aBuiltinM EL .append [57, 57] [.slice (some (6, 0)) 1 (.known 1), .slice none 0 (.known 0)] (vcQ00_s2 a b O V M R X) = some (.slice (some (6, 0)) 1 (.known 1), vcQ00_s2 a b O V M R X) ∧ Q (.normal, xFr [(8, .bool false), (11, .int .u64 z), (16, .slice (some (5, 0)) 1 (.known 1)), (17, .slice (some (6, 0)) 1 (.known 1))] 136, vcQ00_s2 a b O V M R X)) =
  (tQ00 q a b z O V M R X X2 Yx Yy n m V2).allY (fun r => Q (canR [8, 11, 16, 17] KO260 r)) (.v (.slice (some (5, 0)) 1 (.known 1), vcQ00_s0 a O V M R X) (.v (.slice none 0 (.known 0), vcQ00_s2 a b O V M R X) (.v (.slice (some (6, 0)) 1 (.known 1), vcQ00_s2 a b O V M R X) .nil))) := by kernel_rfl
noncomputable def vcQ01_s0 (a : Int) (O : AO) (V : AV) (M : AO) (R : AO) (X : AO) : ASt := mkSt [(0, O), (1, .cells [.map (some 2), V] true), (2, M), (3, R), (4, X), (5, .cells [.int .u64 a] true)] 6
noncomputable def vcQ01_s1 (a : Int) (b : Int) (O : AO) (V : AV) (M : AO) (R : AO) (X : AO) : ASt := mkSt [(0, O), (1, .cells [.map (some 2), V] true), (2, M), (3, R), (4, X), (5, .cells [.int .u64 a] true), (6, .cells [.int .u64 b] true)] 7
noncomputable def vcQ01_s2 (a : Int) (b : Int) (O : AO) (V : AV) (M : AO) (R : AO) (X : AO) (X2 : AO) : ASt := mkSt [(0, O), (1, .cells [.map (some 2), V] true), (2, M), (3, R), (4, X), (5, .cells [.int .u64 a] true), (6, .cells [.int .u64 b] true), (23, X2)] 117
noncomputable def vcQ01_s3 (a : Int) (b : Int) (O : AO) (V : AV) (M : AO) (R : AO) (X : AO) (X2 : AO) (Yy : AO) : ASt := mkSt [(0, O), (1, .cells [.map (some 2), V] true), (2, M), (3, R), (4, X), (5, .cells [.int .u64 a] true), (6, .cells [.int .u64 b] true), (23, X2), (117, Yy)] 118
theorem vcQ01 (q : CallT) (a : Int) (b : Int) (z : Int) (O : AO) (V : AV) (M : AO) (R : AO) (X : AO) (X2 : AO) (Yx : AO) (Yy : AO) (n : Nat) (m : Nat) (V2 : AV) (Q : Exit × AFr × ASt → Prop) :
  (aBuiltinM EL .append [57, 57] [.slice (some (5, 0)) 1 (.known 1), .slice none 0 (.known 0)] (vcQ01_s0 a O V M R X) = some (.slice (some (5, 0)) 1 (.known 1), vcQ01_s0 a O V M R X) ∧ (Ax.M EL (drawA EL) (smG q) 59).call 26 [.ptr (some (1, 0)), .int .u64 b] (vcQ01_s1 a b O V M R X) = some (.slice (some (23, 0)) m (.rest 1), vcQ01_s2 a b O V M R X X2) ∧ aBuiltinM EL .append [57, 57] [.slice (some (6, 0)) 1 (.known 1), .slice (some (23, 0)) m (.rest 1)] (vcQ01_s2 a b O V M R X X2) = some (.slice (some (117, 0)) (m + 1) (.rest 1), vcQ01_s3 a b O V M R X X2 Yy) ∧ Q (.normal, xFr [(8, .bool false), (11, .int .u64 z), (16, .slice (some (5, 0)) 1 (.known 1)), (17, .slice (some (117, 0)) (m + 1) (.rest 1))] 136, vcQ01_s3 a b O V M R X X2 Yy)) =
  (tQ01 q a b z O V M R X X2 Yx Yy n m V2).allY (fun r => Q (canR [8, 11, 16, 17] KO260 r)) (.v (.slice (some (5, 0)) 1 (.known 1), vcQ01_s0 a O V M R X) (.v (.slice (some (23, 0)) m (.rest 1), vcQ01_s2 a b O V M R X X2) (.v (.slice (some (117, 0)) (m + 1) (.rest 1), vcQ01_s3 a b O V M R X X2 Yy) .nil))) := by kernel_rfl
noncomputable def vcQ10_s0 (a : Int) (O : AO) (V : AV) (M : AO) (R : AO) (X : AO) : ASt := mkSt [(0, O), (1, .cells [.map (some 2), V] true), (2, M), (3, R), (4, X), (5, .cells [.int .u64 a] true)] 6
noncomputable def vcQ10_s1 (a : Int) (O : AO) (V : AV) (M : AO) (R : AO) (X : AO) (Yx : AO) : ASt := mkSt [(0, O), (1, .cells [.map (some 2), V] true), (2, M), (3, R), (4, X), (5, .cells [.int .u64 a] true), (6, Yx)] 7
noncomputable def vcQ10_s2 (a : Int) (b : Int) (O : AO) (V : AV) (M : AO) (R : AO) (X : AO) (Yx : AO) : ASt := mkSt [(0, O), (1, .cells [.map (some 2), V] true), (2, M), (3, R), (4, X), (5, .cells [.int .u64 a] true), (6, Yx), (7, .cells [.int .u64 b] true)] 8
noncomputable def vcQ10_s3 (a : Int) (b : Int) (O : AO) (V : AV) (M : AO) (R : AO) (X : AO) (Yx : AO) : ASt := mkSt [(0, O), (1, .cells [.map (some 2), V] true), (2, M), (3, R), (4, X), (5, .cells [.int .u64 a] true), (6, Yx), (7, .cells [.int .u64 b] true), (24, .dead)] 118
theorem vcQ10 (q : CallT) (a : Int) (b : Int) (z : Int) (O : AO) (V : AV) (M : AO) (R : AO) (X : AO) (X2 : AO) (Yx : AO) (Yy : AO) (n : Nat) (m : Nat) (V2 : AV) (Q : Exit × AFr × ASt → Prop) :
  (aBuiltinM EL .append [57, 57] [.slice (some (5, 0)) 1 (.known 1), .slice (some (4, 0)) n (.rest 1)] (vcQ10_s0 a O V M R X) = some (.slice (some (6, 0)) (n + 1) (.rest 1), vcQ10_s1 a O V M R X Yx) ∧ (Ax.M EL (drawA EL) (smG q) 59).call 26 [.ptr (some (1, 0)), .int .u64 b] (vcQ10_s2 a b O V M R X Yx) = some (.slice none 0 (.known 0), vcQ10_s3 a b O V M R X Yx) ∧ aBuiltinM EL .append [57, 57] [.slice (some (7, 0)) 1 (.known 1), .slice none 0 (.known 0)] (vcQ10_s3 a b O V M R X Yx) = some (.slice (some (7, 0)) 1 (.known 1), vcQ10_s3 a b O V M R X Yx) ∧ Q (.normal, xFr [(8, .bool false), (11, .int .u64 z), (16, .slice (some (6, 0)) (n + 1) (.rest 1)), (17, .slice (some (7, 0)) 1 (.known 1))] 136, vcQ10_s3 a b O V M R X Yx)) =
  (tQ10 q a b z O V M R X X2 Yx Yy n m V2).allY (fun r => Q (canR [8, 11, 16, 17] KO260 r)) (.v (.slice (some (6, 0)) (n + 1) (.rest 1), vcQ10_s1 a O V M R X Yx) (.v (.slice none 0 (.known 0), vcQ10_s3 a b O V M R X Yx) (.v (.slice (some (7, 0)) 1 (.known 1), vcQ10_s3 a b O V M R X Yx) .nil))) := by kernel_rfl
noncomputable def vcQ11_s0 (a : Int) (O : AO) (V : AV) (M : AO) (R : AO) (X : AO) : ASt := mkSt [(0, O), (1, .cells [.map (some 2), V] true), (2, M), (3, R), (4, X), (5, .cells [.int .u64 a] true)] 6
noncomputable def vcQ11_s1 (a : Int) (O : AO) (V : AV) (M : AO) (R : AO) (X : AO) (Yx : AO) : ASt := mkSt [(0, O), (1, .cells [.map (some 2), V] true), (2, M), (3, R), (4, X), (5, .cells [.int .u64 a] true), (6, Yx)] 7
noncomputable def vcQ11_s2 (a : Int) (b : Int) (O : AO) (V : AV) (M : AO) (R : AO) (X : AO) (Yx : AO) : ASt := mkSt [(0, O), (1, .cells [.map (some 2), V] true), (2, M), (3, R), (4, X), (5, .cells [.int .u64 a] true), (6, Yx), (7, .cells [.int .u64 b] true)] 8
noncomputable def vcQ11_s3 (a : Int) (b : Int) (O : AO) (V : AV) (M : AO) (R : AO) (X : AO) (X2 : AO) (Yx : AO) : ASt := mkSt [(0, O), (1, .cells [.map (some 2), V] true), (2, M), (3, R), (4, X), (5, .cells [.int .u64 a] true), (6, Yx), (7, .cells [.int .u64 b] true), (24, X2)] 118
noncomputable def vcQ11_s4 (a : Int) (b : Int) (O : AO) (V : AV) (M : AO) (R : AO) (X : AO) (X2 : AO) (Yx : AO) (Yy : AO) : ASt := mkSt [(0, O), (1, .cells [.map (some 2), V] true), (2, M), (3, R), (4, X), (5, .cells [.int .u64 a] true), (6, Yx), (7, .cells [.int .u64 b] true), (24, X2), (118, Yy)] 119
theorem vcQ11 (q : CallT) (a : Int) (b : Int) (z : Int) (O : AO) (V : AV) (M : AO) (R : AO) (X : AO) (X2 : AO) (Yx : AO) (Yy : AO) (n : Nat) (m : Nat) (V2 : AV) (Q : Exit × AFr × ASt → Prop) :
  (aBuiltinM EL .append [57, 57] [.slice (some (5, 0)) 1 (.known 1), .slice (some (4, 0)) n (.rest 1)] (vcQ11_s0 a O V M R X) = some (.slice (some (6, 0)) (n + 1) (.rest 1), vcQ11_s1 a O V M R X Yx) ∧ (Ax.M EL (drawA EL) (smG q) 59).call 26 [.ptr (some (1, 0)), .int .u64 b] (vcQ11_s2 a b O V M R X Yx) = some (.slice (some (24, 0)) m (.rest 1), vcQ11_s3 a b O V M R X X2 Yx) ∧ aBuiltinM EL .append [57, 57] [.slice (some (7, 0)) 1 (.known 1), .slice (some (24, 0)) m (.rest 1)] (vcQ11_s3 a b O V M R X X2 Yx) = some (.slice (some (118, 0)) (m + 1) (.rest 1), vcQ11_s4 a b O V M R X X2 Yx Yy) ∧ Q (.normal, xFr [(8, .bool false), (11, .int .u64 z), (16, .slice (some (6, 0)) (n + 1) (.rest 1)), (17, .slice (some (118, 0)) (m + 1) (.rest 1))] 136, vcQ11_s4 a b O V M R X X2 Yx Yy)) =
  (tQ11 q a b z O V M R X X2 Yx Yy n m V2).allY (fun r => Q (canR [8, 11, 16, 17] KO260 r)) (.v (.slice (some (6, 0)) (n + 1) (.rest 1), vcQ11_s1 a O V M R X Yx) (.v (.slice (some (24, 0)) m (.rest 1), vcQ11_s3 a b O V M R X X2 Yx) (.v (.slice (some (118, 0)) (m + 1) (.rest 1), vcQ11_s4 a b O V M R X X2 Yx Yy) .nil))) := by kernel_rfl
noncomputable def vcW_s0 (O : AO) (X : AO) (Y : AO) : ASt := mkSt [(0, O), (1, X), (2, Y)] 3
theorem vcW (q : CallT) (z : Int) (O : AO) (X : AO) (Y : AO) (n : Nat) (m : Nat) (c : Cap) (c' : Cap) (i : Nat) (k : Nat) (Q : Exit × AFr × ASt → Prop) :
  ((M EL (drawA EL) (smG q) 58).call 28 [.slice (some (1, 0)) n c, .int .u64 z] (vcW_s0 O X Y) = some (.int .i64 (.ofNat i), vcW_s0 O X Y) ∧ (M EL (drawA EL) (smG q) 58).call 28 [.slice (some (2, 0)) m c', .int .u64 z] (vcW_s0 O X Y) = some (.int .i64 (.ofNat k), vcW_s0 O X Y) ∧ still (vcW_s0 O X Y) (aBin EL .lss 3 (.tmp 108) (.const (.int .i64 0)) (.int .i64 (.ofNat i)) (.int .i64 (.ofNat 0))) = some (.bool false, vcW_s0 O X Y) ∧ still (vcW_s0 O X Y) (aBin EL .lss 3 (.tmp 111) (.const (.int .i64 0)) (.int .i64 (.ofNat k)) (.int .i64 (.ofNat 0))) = some (.bool false, vcW_s0 O X Y) ∧ Q (.normal, xFr [(8, .bool false), (16, .slice (some (1, 0)) n c), (17, .slice (some (2, 0)) m c'), (18, .int .i64 (.ofNat i)), (19, .int .i64 (.ofNat k))] 136, vcW_s0 O X Y)) =
  (tW q z O X Y n m c c' i k).allY (fun r => Q (canR [8, 16, 17, 18, 19] KO260 r)) (.v (.int .i64 (.ofNat i), vcW_s0 O X Y) (.v (.int .i64 (.ofNat k), vcW_s0 O X Y) (.v (.bool false, vcW_s0 O X Y) (.v (.bool false, vcW_s0 O X Y) .nil)))) := by kernel_rfl
noncomputable def vcXr_s0 (O : AO) (X : AO) (Y : AO) : ASt := mkSt [(0, O), (1, X), (2, Y)] 3
theorem vcXr (q : CallT) (O : AO) (X : AO) (Y : AO) (n : Nat) (m : Nat) (c : Cap) (c' : Cap) (i : Nat) (k : Nat) (j : Nat) (r : Int) (Q : Exit × AFr × ASt → Prop) :
  (ifB (ltF (.ofNat j) (.ofNat i)) (still (vcXr_s0 O X Y) (aIndexAddr EL 57 (.slice (some (1, 0)) n c) (.int .i64 (.ofNat j))) = some (.ptr (some (1, j)), vcXr_s0 O X Y) ∧ aLoad EL 48 (.ptr (some (1, j))) (vcXr_s0 O X Y) = some (.int .u64 r, vcXr_s0 O X Y) ∧ (M EL (drawA EL) (smG q) 55).call 28 [.slice (some (2, 0)) m c', .int .u64 r] (vcXr_s0 O X Y) = some (.int .i64 (Int.negSucc 0), vcXr_s0 O X Y) ∧ still (vcXr_s0 O X Y) (aBin EL .geq 3 (.tmp 124) (.const (.int .i64 0)) (.int .i64 (Int.negSucc 0)) (.int .i64 (.ofNat 0))) = some (.bool false, vcXr_s0 O X Y) ∧ Q (.normal, xFr [(8, .bool false), (16, .slice (some (1, 0)) n c), (17, .slice (some (2, 0)) m c'), (18, .int .i64 (.ofNat i)), (19, .int .i64 (.ofNat k)), (20, .int .i64 (wrapF .i64 (.ofNat j + .ofNat 1)))] 136, vcXr_s0 O X Y)) (Q (.exit 0, xFr [(8, .bool false), (16, .slice (some (1, 0)) n c), (17, .slice (some (2, 0)) m c'), (18, .int .i64 (.ofNat i)), (19, .int .i64 (.ofNat k)), (20, .int .i64 (.ofNat j))] 136, vcXr_s0 O X Y))) =
  (tXr q O X Y n m c c' i k j r).allY (fun r => Q (canR [8, 16, 17, 18, 19, 20] KO260 r)) (.b (.v (.ptr (some (1, j)), vcXr_s0 O X Y) (.v (.int .u64 r, vcXr_s0 O X Y) (.v (.int .i64 (Int.negSucc 0), vcXr_s0 O X Y) (.v (.bool false, vcXr_s0 O X Y) .nil)))) .nil) := by kernel_rfl
noncomputable def vcZ_s0 (O : AO) (X : AO) (Y : AO) : ASt := mkSt [(0, O), (1, X), (2, Y)] 14
theorem vcZ (q : CallT) (O : AO) (X : AO) (Y : AO) (n : Nat) (m : Nat) (c : Cap) (c' : Cap) (i : Nat) (k : Nat) (W : AV) (W2 : AV) (Q : Exit × Option AV → Prop) :
  (still (vcZ_s0 O X Y) (aSlice EL 57 (.slice (some (1, 0)) n c) (some (.int .i64 (.ofNat i))) none none (vcZ_s0 O X Y)) = some (W, vcZ_s0 O X Y) ∧ still (vcZ_s0 O X Y) (aSlice EL 57 (.slice (some (2, 0)) m c') (some (.int .i64 (.ofNat k))) none none (vcZ_s0 O X Y)) = some (W2, vcZ_s0 O X Y) ∧ (M EL (drawA EL) (smG q) 58).call 27 [W, W2] (vcZ_s0 O X Y) = some (.bool true, vcZ_s0 O X Y) ∧ (M EL (drawA EL) (smG q) 58).call 21 [] (vcZ_s0 O X Y) = some (.bool true, vcZ_s0 O X Y) ∧ holdsO [] ∧ Q (.ret, some (.bool true))) =
  (tZ q O X Y n m c c' i k W W2).allY (fun r => Q (r.1, ans (leaveA EL Try.f6 r.2.1 r.2.2))) (.v (W, vcZ_s0 O X Y) (.v (W2, vcZ_s0 O X Y) (.v (.bool true, vcZ_s0 O X Y) (.v (.bool true, vcZ_s0 O X Y) .nil)))) := by kernel_rfl
end Go.Proofs.Ytidmijpfoodkoaa.gho
end

section
open Go Go.Ax Go.Proofs
namespace Go.Proofs.Ytidmijpfoodkoaa.gho
set_option linter.unusedVariables false
theorem ELok : Env.Ok Try.prog EL := envEx_ok (xs := []) ⟨⟨Try.func6, Try.call6⟩, ⟨Try.func20, Try.call20⟩, ⟨Try.func23, Try.call23⟩, ⟨Try.func25, Try.call25⟩, ⟨Try.func46, Try.call46⟩, trivial⟩ trivial (by kernel_rfl)
section
variable {t : List (Int × Int)} {g a b z : Int} {S : ASt} {O : AO} {x y e e' : List Int} {c c' : Cap} {i k n m : Nat}
def CapR (n : Nat) (c : Cap) : Prop := c = .rest 1 ∨ (c = .known 1 ∧ n = 1)
theorem room1 {b n : Nat} {cs : List AV} {rw : Bool} (hS : S.h.get b = some (.cells cs rw)) (hl : cs.length = n) : aRoom S b 0 1 n = n := by
  unfold aRoom
  rw [hS]
  show Nat.max n (Nat.div (Nat.sub cs.length 0) 1) = n
  have e : Nat.div (Nat.sub cs.length 0) 1 = n := by
    show (cs.length - 0) / 1 = n
    rw [hl]; omega
  rw [e]
  exact Nat.max_eq_right (Nat.le_refl n)
theorem slice_from {b : Nat} (hc : CapR x.length c) (hi : i ≤ x.length) (hx : x ≠ []) : ∃ W, avEq W W = true ∧ ∀ S : ASt, S.h.get b = some (rY x) → still S (aSlice EL 57 (.slice (some (b, 0)) x.length c) (some (.int .i64 (.ofNat i))) none none S) = some (W, S) ∧ SlV S W (x.drop i) := by
  have h0 : 0 < x.length := by cases x with | nil => exact absurd rfl hx | cons => simp
  have hsl : ∀ {S : ASt} {cp : Cap}, i < x.length → S.h.get b = some (rY x) → SlV S (.slice (some (b, i)) (x.length - i) cp) (x.drop i) := fun {S cp} hi hS => by
    have hl : x.length - i = (x.drop i).length := by rw [List.length_drop]
    rw [hl]
    refine .row hS ?_
    unfold takeL
    rw [← List.map_drop, List.take_of_length_le (by simp)]
    simp
  rcases hc with rfl | ⟨rfl, h1⟩
  · have e : ∀ S : ASt, aSlice EL 57 (.slice (some (b, 0)) x.length (.rest 1)) (some (.int .i64 (.ofNat i))) none none S =
      (match (bif true then bif Nat.ble i x.length then some (i, x.length, aRoom S b 0 1 x.length) else none else none : Option (Nat × Nat × Nat)) with
        | some (l, h, m) => bif Nat.blt l (aRoom S b 0 1 x.length) then some (.slice (some (b, 0 + l * 1)) (h - l) (.rest 1)) else bif Nat.beq l 0 then some (.slice (some (b, 0)) 0 (.rest 1)) else some .slice0
        | none => none) := fun S => by kernel_rfl
    by_cases hlt : i < x.length
    · refine ⟨.slice (some (b, i)) (x.length - i) (.rest 1), by simp [avEq, locEq, capEq], fun S hS => ⟨?_, hsl hlt hS⟩⟩
      have hb : Nat.blt i (aRoom S b 0 1 x.length) = true := by rw [room1 hS (by simp), Nat.blt_eq]; exact hlt
      rw [e, Nat.ble_eq_true_of_le hi, cond_true, cond_true]
      simp only [hb, cond_true, Nat.zero_add, Nat.mul_one]
      rfl
    · have hin : i = x.length := by omega
      subst hin
      refine ⟨.slice0, rfl, fun S hS => ⟨?_, by rw [List.drop_length]; exact .zero⟩⟩
      have hb : Nat.blt x.length (aRoom S b 0 1 x.length) = false := by
        rw [room1 hS (by simp)]
        cases h : Nat.blt x.length x.length with
        | false => rfl
        | true => rw [Nat.blt_eq] at h; omega
      have hz : Nat.beq x.length 0 = false := by cases h : x.length with | zero => omega | succ n => rfl
      rw [e, Nat.ble_eq_true_of_le hi, cond_true, cond_true]
      simp only [hb, cond_false, hz]
      rfl
  · rw [h1] at hi ⊢
    match x, h1, i, hi with
    | [v], _, 0, _ => exact ⟨.slice (some (b, 0)) 1 (.known 1), by simp [avEq, locEq, capEq], fun S hS => ⟨by kernel_rfl, .row (x := [v]) hS rfl⟩⟩
    | [v], _, 1, _ => exact ⟨.slice (some (b, 0)) 0 (.known 0), by simp [avEq, locEq, capEq], fun S hS => ⟨by kernel_rfl, .row (x := []) hS rfl⟩⟩
def QT (q : Exit × AFr × ASt) : Prop := (q.1 = .normal ∨ q.1 = .ret) ∧ ans (leaveA EL Try.f6 q.2.1 q.2.2) = some (.bool true)
theorem preRet {kb : Nat} {sum : CallT} (hs : CallsOK Try.prog sum) {k : Nat} {cd : Code} {n : Nat} {fls : List (Nat × Fl)} {rf fl : Fl} {fr : AFr} {st : ASt} {y : An} (hc : hasC k cd = true)
    (h : ((TM EL sum fls rf n).ex fl none (preC k cd) fr st).allY (fun r => (r.1, ans (leaveA EL Try.f6 r.2.1 r.2.2)) = (.ret, some (.bool true))) y) : Trip Try.prog kb none cd fr st QT := by
  obtain ⟨r, h1, h2⟩ := TM_ex (Tr.allY_all _ y h)
  have h3 : r.1 = .ret := congrArg Prod.fst h2
  exact Trip.preX ELok hs k cd n fr st r hc h1 (fun hr => by rw [h3] at hr; cases hr) (fun hr => ⟨.inr h3, congrArg Prod.snd h2⟩)
theorem SY_x {X Y : AO} : (SY O X Y).h.get 1 = some X := by kernel_rfl
theorem SY_y {X Y : AO} : (SY O X Y).h.get 2 = some Y := by kernel_rfl
theorem rowV {k : Nat} (h : S.h.get k = some (rY x)) : SlV S (.slice (some (k, 0)) x.length c) x := .row h (by rw [← List.length_map (f := gU)]; exact takeL_all)
theorem stepZ (hcx : CapR x.length c) (hcy : CapR y.length c') (hi : i ≤ x.length) (hk : k ≤ y.length) (hx : x ≠ []) (hy : y ≠ []) (hd : x.drop i = y.drop k) (hl : x.length < 100000) :
    Trip Try.prog 1 none (dropC 13 c6) (fG9 x.length y.length c c' i k) (SY O (rY x) (rY y)) QT := by
  obtain ⟨W, _, hW⟩ := slice_from (b := 1) hcx hi hx
  obtain ⟨W2, _, hW2⟩ := slice_from (b := 2) hcy hk hy
  obtain ⟨w1, w2⟩ := hW (vcZ_s0 O (rY x) (rY y)) (by kernel_rfl)
  obtain ⟨v1, v2⟩ := hW2 (vcZ_s0 O (rY x) (rY y)) (by kernel_rfl)
  have hsame : Call1 Try.prog 27 [W, W2] (vcZ_s0 O (rY x) (rY y)) (.bool true, vcZ_s0 O (rY x) (rY y)) := same_any w2 (hd ▸ v2) (by rw [List.length_drop]; omega)
  refine (Trip.runY ELok (sum := smG (tabC [_, _])) (onlyC_ok (tabC_ok fun e he => by
      simp only [List.mem_cons, List.not_mem_nil, or_false] at he
      rcases he with rfl | rfl
      · exact hsame
      · exact (known_at : Call1 Try.prog 21 [] (vcZ_s0 O (rY x) (rY y)) _))) (Eq.mp (vcZ (tabC [_, _]) O (rY x) (rY y) x.length y.length c c' i k W W2 (fun q => q = (.ret, some (.bool true)))) ⟨w1, v1, call_at (onlyC_at rfl (tabC_hd ..)), call_at (onlyC_at rfl ((tabC_tlf rfl).trans (tabC_hd ..))), trivial, rfl⟩)).mono fun q hq => ⟨.inr (congrArg Prod.fst hq), congrArg Prod.snd hq⟩
theorem roundX (hj : i ≤ x.length) (hjj : n ≤ i) (hno : ∀ (j : Nat) r, j < i → x[j]? = some r → idxP (fun q => eqF q r) y = .negSucc 0) (hl : x.length < 100000) (hly : y.length < 100000) :
    Trip Try.prog 1 none L6 (fG10 x.length y.length c c' i k n) (SY O (rY x) (rY y)) fun q => (n < i ∧ Stops 1 .normal (fG10 x.length y.length c c' i k (n + 1)) (SY O (rY x) (rY y)) q) ∨ (n = i ∧ Stops 1 (.exit 0) (fG10 x.length y.length c c' i k n) (SY O (rY x) (rY y)) q) := by
  have fin : ∀ {q : Exit × AFr × ASt} {kf ko : List Nat}, ((n < i ∧ Stops 1 .normal (fG10 x.length y.length c c' i k (n + 1)) (SY O (rY x) (rY y)) (canR kf ko q)) ∨ (n = i ∧ Stops 1 (.exit 0) (fG10 x.length y.length c c' i k n) (SY O (rY x) (rY y)) (canR kf ko q))) → _ := fun {q kf ko} h => h.imp (fun h => (⟨h.1, h.2.can⟩ : n < i ∧ Stops 1 .normal (fG10 x.length y.length c c' i k (n + 1)) (SY O (rY x) (rY y)) q)) (fun h => (⟨h.1, h.2.can⟩ : n = i ∧ Stops 1 (.exit 0) (fG10 x.length y.length c c' i k n) (SY O (rY x) (rY y)) q))
  by_cases e : n < i
  · obtain ⟨r, hr⟩ : ∃ r, x[n]? = some r := ⟨_, List.getElem?_eq_getElem (by omega)⟩
    have hpl : Call1 Try.prog 28 [.slice (some (2, 0)) y.length c', .int .u64 r] (SY O (rY x) (rY y)) (.int .i64 (.negSucc 0), SY O (rY x) (rY y)) := by
      have := place_any (g := r) (rowV (c := c') (SY_y (O := O) (X := rY x) (Y := rY y))) (by omega)
      rw [hno n r e hr] at this
      exact this
    refine (Trip.runY ELok (sum := smG (tabC [_])) (onlyC_ok (tabC_ok fun e he => by
      simp only [List.mem_cons, List.not_mem_nil, or_false] at he
      subst he
      exact hpl)) (Eq.mp (vcXr (tabC [_]) O (rY x) (rY y) x.length y.length c c' i k n r (fun q => (n < i ∧ Stops 1 .normal (fG10 x.length y.length c c' i k (n + 1)) (SY O (rY x) (rY y)) q) ∨ (n = i ∧ Stops 1 (.exit 0) (fG10 x.length y.length c c' i k n) (SY O (rY x) (rY y)) q))) (ifB_mk (fun _ => ⟨uidx (by kernel_rfl) (by omega), uload (rw := true) (by kernel_rfl) SY_x (urow hr), call_at (onlyC_at rfl (tabC_hd ..)), by kernel_rfl, .inl ⟨e, rfl, ?_⟩⟩) fun h => nlt' e h))).mono fun q hq => fin hq
    rw [wI e (by omega)]
    exact Wk.refl _ _ _
  · have ek : n = i := by omega
    refine (Trip.runY ELok (sum := smG (tabC [])) (onlyC_ok (tabC_ok fun e he => by cases he)) (Eq.mp (vcXr (tabC []) O (rY x) (rY y) x.length y.length c c' i k n 0 (fun q => (n < i ∧ Stops 1 .normal (fG10 x.length y.length c c' i k (n + 1)) (SY O (rY x) (rY y)) q) ∨ (n = i ∧ Stops 1 (.exit 0) (fG10 x.length y.length c c' i k n) (SY O (rY x) (rY y)) q))) (ifB_mk (fun h => ?_) fun _ => .inr ⟨ek, rfl, Wk.refl _ _ _⟩))).mono fun q hq => fin hq
    rw [ltF_nn] at h
    exact absurd (of_decide_eq_true h) e
theorem shape6 : dropC 12 c6 = .seq (.seq (seqL (seqL (dropC 12 c6))) (.block 0 (.loop L6))) (dropC 13 c6) := by kernel_rfl
theorem stepX (hcx : CapR x.length c) (hcy : CapR y.length c') (hi : i ≤ x.length) (hk : k ≤ y.length) (hx : x ≠ []) (hy : y ≠ []) (hd : x.drop i = y.drop k) (hno : ∀ (j : Nat) r, j < i → x[j]? = some r → idxP (fun q => eqF q r) y = .negSucc 0) (hl : x.length < 100000) (hly : y.length < 100000) :
    Trip Try.prog 1 none (dropC 12 c6) (fG9 x.length y.length c c' i k) (SY O (rY x) (rY y)) QT := by
  rw [shape6]
  refine Trip.seq (R := Stops 1 .normal (fG10 x.length y.length c c' i k i) (SY O (rY x) (rY y))) (Trip.seqC ELok noSum_ok (n := 60) [8, 16, 17, 18, 19, 20] [0, 1, 2] (F := fG10 x.length y.length c c' i k 0) (S := SY O (rY x) (rY y)) (by kernel_rfl) (Trip.block (Trip.loop (fun μ fr st => ∃ n, n ≤ i ∧ μ = i - n ∧ fr = fG10 x.length y.length c c' i k n ∧ st = SY O (rY x) (rY y)) ?_ i ⟨0, by omega, by omega, rfl, rfl⟩))) (fun fr' st' hq => ?_) (fun e fr' st' hne hq => absurd hq.1 hne)
  · rintro μ fr st ⟨n, hn, rfl, rfl, rfl⟩
    refine (roundX hi hn hno hl hly).mono ?_
    rintro ⟨e, fr', st'⟩ (⟨h1, h2, h3⟩ | ⟨h1, h2, h3⟩)
    · simp only at h2
      subst h2
      exact ⟨i - (n + 1), _, _, by omega, h3, n + 1, by omega, rfl, rfl, rfl⟩
    · simp only at h2
      subst h2
      subst h1
      exact ⟨fun _ => ⟨rfl, h3⟩, fun h => absurd rfl h⟩
  · refine Trip.less hq.2 (Trip.less (fr' := fG9 x.length y.length c c' i k) (st' := SY O (rY x) (rY y)) ?_ (stepZ hcx hcy hi hk hx hy hd hl))
    have e3 : canF [8, 16, 17, 18, 19] (fG10 x.length y.length c c' i k i) = fG9 x.length y.length c c' i k := by kernel_rfl
    have e4 : canS KO260 (SY O (rY x) (rY y)) = SY O (rY x) (rY y) := by kernel_rfl
    have := Wk.can 1 [8, 16, 17, 18, 19] KO260 (fG10 x.length y.length c c' i k i) (SY O (rY x) (rY y))
    rw [e3, e4] at this
    exact this
theorem stepW (hcx : CapR x.length c) (hcy : CapR y.length c') (hi : x[i]? = some z) (hk : y[k]? = some z) (hxi : idxP (fun r => eqF r z) x = .ofNat i) (hyk : idxP (fun r => eqF r z) y = .ofNat k) (hd : x.drop i = y.drop k) (hno : ∀ (j : Nat) r, j < i → x[j]? = some r → idxP (fun q => eqF q r) y = .negSucc 0) (hl : x.length < 100000) (hly : y.length < 100000) :
    Trip Try.prog 1 none (dropC 10 c6) (fG8 z x.length y.length c c') (SY O (rY x) (rY y)) QT := by
  have hi1 := (List.getElem?_eq_some_iff.1 hi).1
  have hk1 := (List.getElem?_eq_some_iff.1 hk).1
  have hx : x ≠ [] := by rintro rfl; cases hi
  have hy : y ≠ [] := by rintro rfl; cases hk
  have p1 : Call1 Try.prog 28 [.slice (some (1, 0)) x.length c, .int .u64 z] (SY O (rY x) (rY y)) (.int .i64 (.ofNat i), SY O (rY x) (rY y)) := by
    have := place_any (g := z) (rowV (c := c) (SY_x (O := O) (X := rY x) (Y := rY y))) (by omega)
    rw [hxi] at this
    exact this
  have p2 : Call1 Try.prog 28 [.slice (some (2, 0)) y.length c', .int .u64 z] (SY O (rY x) (rY y)) (.int .i64 (.ofNat k), SY O (rY x) (rY y)) := by
    have := place_any (g := z) (rowV (c := c') (SY_y (O := O) (X := rY x) (Y := rY y))) (by omega)
    rw [hyk] at this
    exact this
  have hz : ∀ n : Nat, ltF (.ofNat n) (.ofNat 0) = false := fun n => by rw [ltF_nn]; simp
  have hlss : ∀ {tt : Nat} {n : Nat} {S : ASt}, (∀ w : Int, aBin EL .lss 3 (.tmp tt) (.const (.int .i64 0)) (.int .i64 w) (.int .i64 (.ofNat 0)) = some (.bool (ltF w (.ofNat 0)))) → still S (aBin EL .lss 3 (.tmp tt) (.const (.int .i64 0)) (.int .i64 (.ofNat n)) (.int .i64 (.ofNat 0))) = some (.bool false, S) := fun {tt n S} h => by rw [h, hz]; rfl
  refine Trip.preY ELok (sum := smG (tabC [_, _])) (onlyC_ok (tabC_ok fun e he => by
      simp only [List.mem_cons, List.not_mem_nil, or_false] at he
      rcases he with rfl | rfl
      · exact p1
      · exact p2)) (k := 1) (kf := [8, 16, 17, 18, 19]) (ko := KO260) (by kernel_rfl) (Q1 := fun q => q = (.normal, fG9 x.length y.length c c' i k, SY O (rY x) (rY y))) (Eq.mp (vcW (tabC [_, _]) z O (rY x) (rY y) x.length y.length c c' i k (fun q => q = (.normal, fG9 x.length y.length c c' i k, SY O (rY x) (rY y)))) ⟨call_at (onlyC_at rfl (tabC_hd ..)), call_at (onlyC_at rfl ((tabC_tla (by simp)).trans (tabC_hd ..))), hlss (fun w => by kernel_rfl), hlss (fun w => by kernel_rfl), rfl⟩)
      (fun F S hq => ?_) (fun r hne hq => absurd (congrArg Prod.fst hq) hne)
  cases hq
  have e1 : dropC 1 (dropC 10 c6) = dropC 12 c6 := by kernel_rfl
  rw [e1]
  exact stepX hcx hcy (by omega) (by omega) hx hy hd hno hl hly
end
end Go.Proofs.Ytidmijpfoodkoaa.gho
end

section
open Go Go.Ax Go.Proofs
namespace Go.Proofs.Ytidmijpfoodkoaa.gho
set_option linter.unusedVariables false
section
variable {t : List (Int × Int)} {g a b z : Int} {S : ASt} {O : AO} {x y e f : List Int} {c c' : Cap} {i k n m : Nat}
theorem apL_nil : aBuiltinM EL .append [57, 57] [.slice (some (k, 0)) 1 (.known 1), .slice none 0 (.known 0)] S = some (.slice (some (k, 0)) 1 (.known 1), S) := by kernel_rfl
theorem apL57 : appT EL 57 57 = some (1, 8) := by kernel_rfl
theorem apL_row {j : Nat} (hk : S.h.get k = some (.cells [gU a] true)) (hj : S.h.get j = some (.cells (e.map gU) true)) (he : e ≠ []) (hl : e.length < 100000) :
    aBuiltinM EL .append [57, 57] [.slice (some (k, 0)) 1 (.known 1), slU j e.length] S = some (.slice (some (S.next, 0)) (e.length + 1) (.rest 1), S.add (rY (a :: e))) := by
  have h0 : 0 < e.length := by cases e with | nil => exact absurd rfl he | cons => simp
  refine (append_full_at (l := 1) (i := k) (o := 0) (n := e.length) (new := e.map gU) (old := [gU a]) apL57 rfl (first_at (cs := e.map gU) (rw := true) hj (by rw [Nat.mul_one, show e.length = (e.map gU).length by simp]; exact takeL_all)) (first_at (cs := [gU a]) (rw := true) hk rfl) h0 (by omega) (by omega)).trans ?_
  rw [Nat.add_comm 1 e.length]
  rfl
theorem upL {s s' : ASt} (hT : TreeOk t) (htl : t.length < 1000) (hS : TreeB s t) (he : up t g = e) (hs : outS (gA 1 3 s.next) [(0, tA (vT 3 t)), (1, mO t), (2, rT t), (16, Ux e)] s (s.next + 110) = s') : Call1 Try.prog 26 [.ptr (some (1, 0)), .int .u64 g] s (Uv (s.next + 16) e, s') := by
  have h := upB_at (g := g) hS hT (by have := up_len (t := t) (g := g); omega)
  rw [he, hs] at h
  exact h
theorem stepQ (hO : Came O) (hT : TreeOk t) (htl : t.length < 1000) (hz : comm t a b = some z) (hea : up t a = e) (heb : up t b = f) :
    Trip Try.prog 1 none (dropC 9 c6) (fG7 a b z (Uv 4 e)) (SX O (tA (vT 3 t)) (mO t) (rT t) (Ux e)) QT := by
  obtain ⟨i, k, h1, h2, h3, h4, h5, h6⟩ := comm_law hT hz
  have hle : e.length < 2000 := by rw [← hea]; have := up_len (t := t) (g := a); omega
  have hlf : f.length < 2000 := by rw [← heb]; have := up_len (t := t) (g := b); omega
  unfold chn at h1 h2 h3 h4 h5 h6
  rw [hea] at h1 h3 h5 h6
  rw [heb] at h2 h4 h5 h6
  have e1 : dropC 0 (dropC 9 c6) = dropC 10 c6 := by kernel_rfl
  have fin : ∀ {F : AFr} {s : ASt} {c c' : Cap}, CapR (a :: e).length c → CapR (b :: f).length c' → Wk 1 F s (fG8 z (a :: e).length (b :: f).length c c') (SY O (rY (a :: e)) (rY (b :: f))) → Trip Try.prog 1 none (dropC 0 (dropC 9 c6)) F s QT := fun hcx hcy hw => by
    rw [e1]
    exact Trip.less hw (stepW hcx hcy h1 h2 h3 h4 h6 h5 (by simp; omega) (by simp; omega))
  have hst : ∀ {s : ASt} {jx jy : Nat} {lf : List (Nat × AV)} {l0 : List (Nat × AV)}, noDup [0, jx, jy] = true → frE [0, jx, jy] (xFr l0 136) [8, 11, 16, 17] = some lf → s.h.get 0 = some O → s.h.get jx = some (rY (a :: e)) → s.h.get jy = some (rY (b :: f)) → Wk 1 (xFr l0 136) s (xFr lf 136) (SY O (rY (a :: e)) (rY (b :: f))) := fun hn hf h0 hx hy =>
    Wk.heldX (kb := 1) _ (by rfl) hn [8, 11, 16, 17] hf (.came hO rfl h0 <| .cons _ _ rfl hx (.row gU_refs) <| .cons _ _ rfl hy (.row gU_refs) .nil)
  cases e with
  | nil =>
    cases f with
    | nil =>
      refine Trip.preY ELok (sum := smG (tabC [_])) (onlyC_ok (tabC_ok fun w he => by
        simp only [List.mem_cons, List.not_mem_nil, or_false] at he
        subst he
        exact upL (s := vcQ00_s1 a b O (vT 3 t) (mO t) (rT t) .dead) hT htl ⟨by kernel_rfl, by kernel_rfl, by kernel_rfl, Nat.le_of_ble_eq_true (by kernel_rfl)⟩ heb (by kernel_rfl : _ = vcQ00_s2 a b O (vT 3 t) (mO t) (rT t) .dead))) (k := 0) (kf := [8, 11, 16, 17]) (ko := KO260) (by kernel_rfl)
        (Q1 := fun q => q = (.normal, xFr [(8, .bool false), (11, .int .u64 z), (16, .slice (some (5, 0)) 1 (.known 1)), (17, .slice (some (6, 0)) 1 (.known 1))] 136, vcQ00_s2 a b O (vT 3 t) (mO t) (rT t) .dead))
        (Eq.mp (vcQ00 (tabC [_]) a b z O (vT 3 t) (mO t) (rT t) .dead .dead .dead .dead 0 0 nilA (fun q => q = (.normal, xFr [(8, .bool false), (11, .int .u64 z), (16, .slice (some (5, 0)) 1 (.known 1)), (17, .slice (some (6, 0)) 1 (.known 1))] 136, vcQ00_s2 a b O (vT 3 t) (mO t) (rT t) .dead))) ⟨apL_nil, call_at (onlyC_at rfl (tabC_hd ..)), apL_nil, rfl⟩) (fun F S hq => ?_) (fun r hne hq => absurd (congrArg Prod.fst hq) hne)
      cases hq
      exact fin (.inr ⟨rfl, rfl⟩) (.inr ⟨rfl, rfl⟩) (hst (jx := 5) (jy := 6) (by kernel_rfl) (by kernel_rfl) (by kernel_rfl) (by kernel_rfl) (by kernel_rfl))
    | cons v f =>
      have hlf2 : f.length + 1 < 2000 := hlf
      refine Trip.preY ELok (sum := smG (tabC [_])) (onlyC_ok (tabC_ok fun w he => by
        simp only [List.mem_cons, List.not_mem_nil, or_false] at he
        subst he
        exact upL (s := vcQ01_s1 a b O (vT 3 t) (mO t) (rT t) .dead) hT htl ⟨by kernel_rfl, by kernel_rfl, by kernel_rfl, Nat.le_of_ble_eq_true (by kernel_rfl)⟩ heb (by kernel_rfl : _ = vcQ01_s2 a b O (vT 3 t) (mO t) (rT t) .dead (Ux (v :: f))))) (k := 0) (kf := [8, 11, 16, 17]) (ko := KO260) (by kernel_rfl)
        (Q1 := fun q => q = (.normal, xFr [(8, .bool false), (11, .int .u64 z), (16, .slice (some (5, 0)) 1 (.known 1)), (17, .slice (some (117, 0)) (f.length + 1 + 1) (.rest 1))] 136, vcQ01_s3 a b O (vT 3 t) (mO t) (rT t) .dead (Ux (v :: f)) (rY (b :: v :: f))))
        (Eq.mp (vcQ01 (tabC [_]) a b z O (vT 3 t) (mO t) (rT t) .dead (Ux (v :: f)) .dead (rY (b :: v :: f)) 0 (f.length + 1) nilA (fun q => q = (.normal, xFr [(8, .bool false), (11, .int .u64 z), (16, .slice (some (5, 0)) 1 (.known 1)), (17, .slice (some (117, 0)) (f.length + 1 + 1) (.rest 1))] 136, vcQ01_s3 a b O (vT 3 t) (mO t) (rT t) .dead (Ux (v :: f)) (rY (b :: v :: f))))) ⟨apL_nil, call_at (onlyC_at rfl (tabC_hd ..)), (apL_row (a := b) (e := v :: f) (j := 23) (by kernel_rfl) (by kernel_rfl) (by simp) (by simp; omega)).trans (by kernel_rfl), rfl⟩) (fun F S hq => ?_) (fun r hne hq => absurd (congrArg Prod.fst hq) hne)
      cases hq
      exact fin (.inr ⟨rfl, rfl⟩) (.inl rfl) (hst (jx := 5) (jy := 117) (by kernel_rfl) (by kernel_rfl) (by kernel_rfl) (by kernel_rfl) (by kernel_rfl))
  | cons u e =>
    have hle2 : e.length + 1 < 2000 := hle
    have hapx : ∀ {s s' : ASt}, s.h.get 5 = some (.cells [gU a] true) → s.h.get 4 = some (Ux (u :: e)) → s.next = 6 → s.add (rY (a :: u :: e)) = s' → aBuiltinM EL .append [57, 57] [.slice (some (5, 0)) 1 (.known 1), .slice (some (4, 0)) (e.length + 1) (.rest 1)] s = some (.slice (some (6, 0)) (e.length + 1 + 1) (.rest 1), s') := fun {s s'} h5 h4 hn hs => by
      have := apL_row (a := a) (e := u :: e) (S := s) (k := 5) (j := 4) h5 h4 (by simp) (by simp; omega)
      rw [hn, hs] at this
      exact this
    cases f with
    | nil =>
      refine Trip.preY ELok (sum := smG (tabC [_])) (onlyC_ok (tabC_ok fun w he => by
        simp only [List.mem_cons, List.not_mem_nil, or_false] at he
        subst he
        exact upL (s := vcQ10_s2 a b O (vT 3 t) (mO t) (rT t) (Ux (u :: e)) (rY (a :: u :: e))) hT htl ⟨by kernel_rfl, by kernel_rfl, by kernel_rfl, Nat.le_of_ble_eq_true (by kernel_rfl)⟩ heb (by kernel_rfl : _ = vcQ10_s3 a b O (vT 3 t) (mO t) (rT t) (Ux (u :: e)) (rY (a :: u :: e))))) (k := 0) (kf := [8, 11, 16, 17]) (ko := KO260) (by kernel_rfl)
        (Q1 := fun q => q = (.normal, xFr [(8, .bool false), (11, .int .u64 z), (16, .slice (some (6, 0)) (e.length + 1 + 1) (.rest 1)), (17, .slice (some (7, 0)) 1 (.known 1))] 136, vcQ10_s3 a b O (vT 3 t) (mO t) (rT t) (Ux (u :: e)) (rY (a :: u :: e))))
        (Eq.mp (vcQ10 (tabC [_]) a b z O (vT 3 t) (mO t) (rT t) (Ux (u :: e)) .dead (rY (a :: u :: e)) .dead (e.length + 1) 0 nilA (fun q => q = (.normal, xFr [(8, .bool false), (11, .int .u64 z), (16, .slice (some (6, 0)) (e.length + 1 + 1) (.rest 1)), (17, .slice (some (7, 0)) 1 (.known 1))] 136, vcQ10_s3 a b O (vT 3 t) (mO t) (rT t) (Ux (u :: e)) (rY (a :: u :: e))))) ⟨hapx (by kernel_rfl) (by kernel_rfl) rfl (by kernel_rfl), call_at (onlyC_at rfl (tabC_hd ..)), apL_nil, rfl⟩) (fun F S hq => ?_) (fun r hne hq => absurd (congrArg Prod.fst hq) hne)
      cases hq
      exact fin (.inl rfl) (.inr ⟨rfl, rfl⟩) (hst (jx := 6) (jy := 7) (by kernel_rfl) (by kernel_rfl) (by kernel_rfl) (by kernel_rfl) (by kernel_rfl))
    | cons v f =>
      have hlf2 : f.length + 1 < 2000 := hlf
      refine Trip.preY ELok (sum := smG (tabC [_])) (onlyC_ok (tabC_ok fun w he => by
        simp only [List.mem_cons, List.not_mem_nil, or_false] at he
        subst he
        exact upL (s := vcQ11_s2 a b O (vT 3 t) (mO t) (rT t) (Ux (u :: e)) (rY (a :: u :: e))) hT htl ⟨by kernel_rfl, by kernel_rfl, by kernel_rfl, Nat.le_of_ble_eq_true (by kernel_rfl)⟩ heb (by kernel_rfl : _ = vcQ11_s3 a b O (vT 3 t) (mO t) (rT t) (Ux (u :: e)) (Ux (v :: f)) (rY (a :: u :: e))))) (k := 0) (kf := [8, 11, 16, 17]) (ko := KO260) (by kernel_rfl)
        (Q1 := fun q => q = (.normal, xFr [(8, .bool false), (11, .int .u64 z), (16, .slice (some (6, 0)) (e.length + 1 + 1) (.rest 1)), (17, .slice (some (118, 0)) (f.length + 1 + 1) (.rest 1))] 136, vcQ11_s4 a b O (vT 3 t) (mO t) (rT t) (Ux (u :: e)) (Ux (v :: f)) (rY (a :: u :: e)) (rY (b :: v :: f))))
        (Eq.mp (vcQ11 (tabC [_]) a b z O (vT 3 t) (mO t) (rT t) (Ux (u :: e)) (Ux (v :: f)) (rY (a :: u :: e)) (rY (b :: v :: f)) (e.length + 1) (f.length + 1) nilA (fun q => q = (.normal, xFr [(8, .bool false), (11, .int .u64 z), (16, .slice (some (6, 0)) (e.length + 1 + 1) (.rest 1)), (17, .slice (some (118, 0)) (f.length + 1 + 1) (.rest 1))] 136, vcQ11_s4 a b O (vT 3 t) (mO t) (rT t) (Ux (u :: e)) (Ux (v :: f)) (rY (a :: u :: e)) (rY (b :: v :: f))))) ⟨hapx (by kernel_rfl) (by kernel_rfl) rfl (by kernel_rfl), call_at (onlyC_at rfl (tabC_hd ..)), (apL_row (a := b) (e := v :: f) (j := 24) (by kernel_rfl) (by kernel_rfl) (by simp) (by simp; omega)).trans (by kernel_rfl), rfl⟩) (fun F S hq => ?_) (fun r hne hq => absurd (congrArg Prod.fst hq) hne)
      cases hq
      exact fin (.inl rfl) (.inl rfl) (hst (jx := 6) (jy := 118) (by kernel_rfl) (by kernel_rfl) (by kernel_rfl) (by kernel_rfl) (by kernel_rfl))
end
end Go.Proofs.Ytidmijpfoodkoaa.gho
end

section
open Go Go.Ax Go.Proofs
namespace Go.Proofs.Ytidmijpfoodkoaa.gho
set_option linter.unusedVariables false
section
variable {t : List (Int × Int)} {g a b z u : Int} {S : ASt} {O : AO} {A : AV} {x y e f : List Int} {bs : List Br} {c c' : Cap} {i k n m : Nat} {w : Bool}
theorem stepN0 : Trip Try.prog 1 none (dropC 8 c6) (fG6 a b z false (Uv 4 e)) (SX O (tA (vT 3 t)) (mO t) (rT t) (Ux e)) QT :=
  preRet (sum := smG (tabC [_])) (onlyC_ok (tabC_ok fun w he => by
    simp only [List.mem_cons, List.not_mem_nil, or_false] at he
    subst he
    exact (known_at : Call1 Try.prog 21 [] (vcN0_s0 O (vT 3 t) (mO t) (rT t) (Ux e)) _))) (k := 0) (by kernel_rfl) (Eq.mp (vcN0 (tabC [_]) a b z O (vT 3 t) (mO t) (rT t) (Ux e) (Uv 4 e) (fun q => q = (.ret, some (.bool true)))) ⟨call_at (onlyC_at rfl (tabC_hd ..)), rfl⟩)
theorem stepN1 (hO : Came O) (hT : TreeOk t) (htl : t.length < 1000) (hz : comm t a b = some z) (hea : up t a = e) : Trip Try.prog 1 none (dropC 8 c6) (fG6 a b z true (Uv 4 e)) (SX O (tA (vT 3 t)) (mO t) (rT t) (Ux e)) QT := by
  refine Trip.preY ELok (sum := smG (tabC [])) (onlyC_ok (tabC_ok fun w he => by cases he)) (k := 0) (kf := [2, 3, 8, 9, 11, 15]) (ko := KO260) (by kernel_rfl) (Q1 := fun q => q = (.normal, fG7 a b z (Uv 4 e), vcN1_s0 O (vT 3 t) (mO t) (rT t) (Ux e))) (Eq.mp (vcN1 (tabC []) a b z O (vT 3 t) (mO t) (rT t) (Ux e) (Uv 4 e) (fun q => q = (.normal, fG7 a b z (Uv 4 e), vcN1_s0 O (vT 3 t) (mO t) (rT t) (Ux e)))) rfl) (fun F S hq => ?_) (fun r hne hq => absurd (congrArg Prod.fst hq) hne)
  cases hq
  have e1 : dropC 0 (dropC 8 c6) = dropC 9 c6 := by kernel_rfl
  have e2 : vcN1_s0 O (vT 3 t) (mO t) (rT t) (Ux e) = SX O (tA (vT 3 t)) (mO t) (rT t) (Ux e) := by kernel_rfl
  rw [e1, e2]
  exact stepQ hO hT htl hz hea rfl
theorem Uv_slv (h : S.h.get k = some (Ux e)) : SlV S (Uv k e) e := by
  cases e with
  | nil => exact .nil
  | cons u e => exact .row (x := u :: e) h (by rw [← List.length_map (f := gU)]; exact takeL_all)
theorem up_tail (hT : TreeOk t) (h : up t a = u :: e) : up t u = e := by
  rcases up_cases hT a with h1 | ⟨p, h1, _⟩
  · rw [h1] at h; cases h
  · rw [h1] at h
    unfold chn at h
    simp only [List.cons.injEq] at h
    obtain ⟨rfl, h⟩ := h
    exact h
theorem stepJ0 (hO : Came O) (hT : TreeOk t) (htl : t.length < 1000) : Trip Try.prog 1 none (dropC 6 c6) (fG5 a b z false) (SOt O t) QT := by
  have e1 : dropC 1 (dropC 6 c6) = dropC 8 c6 := by kernel_rfl
  cases hu : up t a with
  | nil =>
    refine Trip.preY ELok (sum := smG (tabC [_])) (onlyC_ok (tabC_ok fun w he => by
      simp only [List.mem_cons, List.not_mem_nil, or_false] at he
      subst he
      exact upL (s := vcJ0_s0 O (vT 3 t) (mO t) (rT t)) hT htl ⟨by kernel_rfl, by kernel_rfl, by kernel_rfl, Nat.le_of_ble_eq_true (by kernel_rfl)⟩ hu (by kernel_rfl : _ = vcJ0_s1 O (vT 3 t) (mO t) (rT t)))) (k := 1) (kf := [2, 3, 8, 9, 11, 12, 15]) (ko := KO260) (by kernel_rfl)
      (Q1 := fun q => q = (.normal, fG6 a b z false nilA, vcJ0_s2 O (vT 3 t) (mO t) (rT t))) (Eq.mp (vcJ0 (tabC [_]) a b z O (vT 3 t) (mO t) (rT t) (fun q => q = (.normal, fG6 a b z false nilA, vcJ0_s2 O (vT 3 t) (mO t) (rT t)))) ⟨call_at (onlyC_at rfl (tabC_hd ..)), rfl⟩) (fun F S hq => ?_) (fun r hne hq => absurd (congrArg Prod.fst hq) hne)
    cases hq
    rw [e1]
    refine Trip.less (fr' := fG6 a b z false (Uv 4 [])) (st' := SX O (tA (vT 3 t)) (mO t) (rT t) (Ux [])) ?_ (stepN0)
    exact Wk.heldX (kb := 1) [0, 1, 2, 3, 4] (by kernel_rfl) (by kernel_rfl) [2, 3, 8, 9, 11, 12, 15] (by kernel_rfl) (.came hO rfl (by kernel_rfl) <| .cons 1 (tA (vT 3 t)) rfl (by kernel_rfl) (.of rfl) <| .cons 2 (mO t) rfl (by kernel_rfl) mO_ren <| .cons 3 (rT t) rfl (by kernel_rfl) (.row gU_refs) <| .dead (by decide) .nil)
  | cons u e =>
    have hl : e.length + 1 < 2000 := by have h1 := up_len (t := t) (g := a); rw [hu] at h1; simp only [List.length_cons] at h1; omega
    have hut := up_tail hT hu
    obtain ⟨W, hav, hW⟩ := slice_from (x := u :: e) (i := 1) (b := 20) (c := .rest 1) (.inl rfl) (by simp) (by simp)
    obtain ⟨w1, _⟩ := hW (vcK0_s2 O (vT 3 t) (mO t) (rT t) (Ux (u :: e))) (by kernel_rfl)
    obtain ⟨v1, v2⟩ := hW (vcK0_s3 O (vT 3 t) (mO t) (rT t) (Ux (u :: e)) (Ux e)) (by kernel_rfl)
    have c1 : Call1 Try.prog 26 [.ptr (some (1, 0)), .int .u64 a] (vcK0_s0 O (vT 3 t) (mO t) (rT t)) (.slice (some (20, 0)) (e.length + 1) (.rest 1), vcK0_s1 O (vT 3 t) (mO t) (rT t) (Ux (u :: e))) :=
      upL (s := vcK0_s0 O (vT 3 t) (mO t) (rT t)) hT htl ⟨by kernel_rfl, by kernel_rfl, by kernel_rfl, Nat.le_of_ble_eq_true (by kernel_rfl)⟩ hu (by kernel_rfl : _ = vcK0_s1 O (vT 3 t) (mO t) (rT t) (Ux (u :: e)))
    have c2 : Call1 Try.prog 26 [.ptr (some (1, 0)), .int .u64 u] (vcK0_s2 O (vT 3 t) (mO t) (rT t) (Ux (u :: e))) (Uv 144 e, vcK0_s3 O (vT 3 t) (mO t) (rT t) (Ux (u :: e)) (Ux e)) :=
      upL (s := vcK0_s2 O (vT 3 t) (mO t) (rT t) (Ux (u :: e))) hT htl ⟨by kernel_rfl, by kernel_rfl, by kernel_rfl, Nat.le_of_ble_eq_true (by kernel_rfl)⟩ hut (by kernel_rfl : _ = vcK0_s3 O (vT 3 t) (mO t) (rT t) (Ux (u :: e)) (Ux e))
    have c3 : Call1 Try.prog 27 [W, Uv 144 e] (vcK0_s3 O (vT 3 t) (mO t) (rT t) (Ux (u :: e)) (Ux e)) (.bool true, vcK0_s3 O (vT 3 t) (mO t) (rT t) (Ux (u :: e)) (Ux e)) :=
      same_any v2 (Uv_slv (by kernel_rfl)) (by simp; omega)
    have hgt : still (vcK0_s2 O (vT 3 t) (mO t) (rT t) (Ux (u :: e))) (aBin EL .gtr 3 (.tmp 76) (.const (.int .i64 0)) (.int .i64 (.ofNat (e.length + 1))) (.int .i64 (.ofNat 0))) = some (.bool true, vcK0_s2 O (vT 3 t) (mO t) (rT t) (Ux (u :: e))) := by
      have h : ∀ w : Int, aBin EL .gtr 3 (.tmp 76) (.const (.int .i64 0)) (.int .i64 w) (.int .i64 (.ofNat 0)) = some (.bool (ltF (.ofNat 0) w)) := fun w => by kernel_rfl
      rw [h, ltF_nn, decide_eq_true (by omega)]; rfl
    refine Trip.preY ELok (sum := smG (tabC [_, _, _])) (onlyC_ok (tabC_ok fun w he => by
      simp only [List.mem_cons, List.not_mem_nil, or_false] at he
      rcases he with rfl | rfl | rfl
      · exact c1
      · exact c2
      · exact c3)) (k := 1) (kf := [2, 3, 8, 9, 11, 12, 15]) (ko := KO260) (by kernel_rfl)
      (Q1 := fun q => q = (.normal, fG6 a b z false (slU 20 (e.length + 1)), vcK0_s3 O (vT 3 t) (mO t) (rT t) (Ux (u :: e)) (Ux e))) (Eq.mp (vcK0 (tabC [_, _, _]) a b z u O (vT 3 t) (mO t) (rT t) (Ux (u :: e)) (Ux e) e.length W (Uv 144 e) (fun q => q = (.normal, fG6 a b z false (slU 20 (e.length + 1)), vcK0_s3 O (vT 3 t) (mO t) (rT t) (Ux (u :: e)) (Ux e))))
        ⟨call_at (onlyC_at rfl (tabC_hd ..)), hgt, w1, uidx (by kernel_rfl) (by omega), uload (rw := true) (cs := (u :: e).map gU) (by kernel_rfl) (by kernel_rfl) rfl, call_at (onlyC_at rfl ((tabC_tln rfl).trans (tabC_hd ..))), call_at (onlyC_at rfl ((tabC_tlf rfl).trans ((tabC_tlf rfl).trans (tabC_hd ..)))), ⟨⟨(congrArg fstO v1).trans rfl, hav⟩, trivial⟩, rfl⟩) (fun F S hq => ?_) (fun r hne hq => absurd (congrArg Prod.fst hq) hne)
    cases hq
    rw [e1]
    refine Trip.less (fr' := fG6 a b z false (Uv 4 (u :: e))) (st' := SX O (tA (vT 3 t)) (mO t) (rT t) (Ux (u :: e))) ?_ (stepN0)
    exact Wk.heldX (kb := 1) [0, 1, 2, 3, 20] (by kernel_rfl) (by kernel_rfl) [2, 3, 8, 9, 11, 12, 15] (by kernel_rfl) (.came hO rfl (by kernel_rfl) <| .cons 1 (tA (vT 3 t)) rfl (by kernel_rfl) (.of rfl) <| .cons 2 (mO t) rfl (by kernel_rfl) mO_ren <| .cons 3 (rT t) rfl (by kernel_rfl) (.row gU_refs) <| .cons 20 (Ux (u :: e)) rfl (by kernel_rfl) (.row gU_refs) .nil)
theorem stepJ1 (hO : Came O) (hT : TreeOk t) (htl : t.length < 1000) (hz : comm t a b = some z) : Trip Try.prog 1 none (dropC 6 c6) (fG5 a b z true) (SOt O t) QT := by
  have e1 : dropC 1 (dropC 6 c6) = dropC 8 c6 := by kernel_rfl
  cases hu : up t a with
  | nil =>
    refine Trip.preY ELok (sum := smG (tabC [_])) (onlyC_ok (tabC_ok fun w he => by
      simp only [List.mem_cons, List.not_mem_nil, or_false] at he
      subst he
      exact upL (s := vcJ1_s0 O (vT 3 t) (mO t) (rT t)) hT htl ⟨by kernel_rfl, by kernel_rfl, by kernel_rfl, Nat.le_of_ble_eq_true (by kernel_rfl)⟩ hu (by kernel_rfl : _ = vcJ1_s1 O (vT 3 t) (mO t) (rT t)))) (k := 1) (kf := [2, 3, 8, 9, 11, 12, 15]) (ko := KO260) (by kernel_rfl)
      (Q1 := fun q => q = (.normal, fG6 a b z true nilA, vcJ1_s2 O (vT 3 t) (mO t) (rT t))) (Eq.mp (vcJ1 (tabC [_]) a b z O (vT 3 t) (mO t) (rT t) (fun q => q = (.normal, fG6 a b z true nilA, vcJ1_s2 O (vT 3 t) (mO t) (rT t)))) ⟨call_at (onlyC_at rfl (tabC_hd ..)), rfl⟩) (fun F S hq => ?_) (fun r hne hq => absurd (congrArg Prod.fst hq) hne)
    cases hq
    rw [e1]
    refine Trip.less (fr' := fG6 a b z true (Uv 4 [])) (st' := SX O (tA (vT 3 t)) (mO t) (rT t) (Ux [])) ?_ (stepN1 hO hT htl hz hu)
    exact Wk.heldX (kb := 1) [0, 1, 2, 3, 4] (by kernel_rfl) (by kernel_rfl) [2, 3, 8, 9, 11, 12, 15] (by kernel_rfl) (.came hO rfl (by kernel_rfl) <| .cons 1 (tA (vT 3 t)) rfl (by kernel_rfl) (.of rfl) <| .cons 2 (mO t) rfl (by kernel_rfl) mO_ren <| .cons 3 (rT t) rfl (by kernel_rfl) (.row gU_refs) <| .dead (by decide) .nil)
  | cons u e =>
    have hl : e.length + 1 < 2000 := by have h1 := up_len (t := t) (g := a); rw [hu] at h1; simp only [List.length_cons] at h1; omega
    have hut := up_tail hT hu
    obtain ⟨W, hav, hW⟩ := slice_from (x := u :: e) (i := 1) (b := 20) (c := .rest 1) (.inl rfl) (by simp) (by simp)
    obtain ⟨w1, _⟩ := hW (vcK1_s2 O (vT 3 t) (mO t) (rT t) (Ux (u :: e))) (by kernel_rfl)
    obtain ⟨v1, v2⟩ := hW (vcK1_s3 O (vT 3 t) (mO t) (rT t) (Ux (u :: e)) (Ux e)) (by kernel_rfl)
    have c1 : Call1 Try.prog 26 [.ptr (some (1, 0)), .int .u64 a] (vcK1_s0 O (vT 3 t) (mO t) (rT t)) (.slice (some (20, 0)) (e.length + 1) (.rest 1), vcK1_s1 O (vT 3 t) (mO t) (rT t) (Ux (u :: e))) :=
      upL (s := vcK1_s0 O (vT 3 t) (mO t) (rT t)) hT htl ⟨by kernel_rfl, by kernel_rfl, by kernel_rfl, Nat.le_of_ble_eq_true (by kernel_rfl)⟩ hu (by kernel_rfl : _ = vcK1_s1 O (vT 3 t) (mO t) (rT t) (Ux (u :: e)))
    have c2 : Call1 Try.prog 26 [.ptr (some (1, 0)), .int .u64 u] (vcK1_s2 O (vT 3 t) (mO t) (rT t) (Ux (u :: e))) (Uv 144 e, vcK1_s3 O (vT 3 t) (mO t) (rT t) (Ux (u :: e)) (Ux e)) :=
      upL (s := vcK1_s2 O (vT 3 t) (mO t) (rT t) (Ux (u :: e))) hT htl ⟨by kernel_rfl, by kernel_rfl, by kernel_rfl, Nat.le_of_ble_eq_true (by kernel_rfl)⟩ hut (by kernel_rfl : _ = vcK1_s3 O (vT 3 t) (mO t) (rT t) (Ux (u :: e)) (Ux e))
    have c3 : Call1 Try.prog 27 [W, Uv 144 e] (vcK1_s3 O (vT 3 t) (mO t) (rT t) (Ux (u :: e)) (Ux e)) (.bool true, vcK1_s3 O (vT 3 t) (mO t) (rT t) (Ux (u :: e)) (Ux e)) :=
      same_any v2 (Uv_slv (by kernel_rfl)) (by simp; omega)
    have hgt : still (vcK1_s2 O (vT 3 t) (mO t) (rT t) (Ux (u :: e))) (aBin EL .gtr 3 (.tmp 76) (.const (.int .i64 0)) (.int .i64 (.ofNat (e.length + 1))) (.int .i64 (.ofNat 0))) = some (.bool true, vcK1_s2 O (vT 3 t) (mO t) (rT t) (Ux (u :: e))) := by
      have h : ∀ w : Int, aBin EL .gtr 3 (.tmp 76) (.const (.int .i64 0)) (.int .i64 w) (.int .i64 (.ofNat 0)) = some (.bool (ltF (.ofNat 0) w)) := fun w => by kernel_rfl
      rw [h, ltF_nn, decide_eq_true (by omega)]; rfl
    refine Trip.preY ELok (sum := smG (tabC [_, _, _])) (onlyC_ok (tabC_ok fun w he => by
      simp only [List.mem_cons, List.not_mem_nil, or_false] at he
      rcases he with rfl | rfl | rfl
      · exact c1
      · exact c2
      · exact c3)) (k := 1) (kf := [2, 3, 8, 9, 11, 12, 15]) (ko := KO260) (by kernel_rfl)
      (Q1 := fun q => q = (.normal, fG6 a b z true (slU 20 (e.length + 1)), vcK1_s3 O (vT 3 t) (mO t) (rT t) (Ux (u :: e)) (Ux e))) (Eq.mp (vcK1 (tabC [_, _, _]) a b z u O (vT 3 t) (mO t) (rT t) (Ux (u :: e)) (Ux e) e.length W (Uv 144 e) (fun q => q = (.normal, fG6 a b z true (slU 20 (e.length + 1)), vcK1_s3 O (vT 3 t) (mO t) (rT t) (Ux (u :: e)) (Ux e))))
        ⟨call_at (onlyC_at rfl (tabC_hd ..)), hgt, w1, uidx (by kernel_rfl) (by omega), uload (rw := true) (cs := (u :: e).map gU) (by kernel_rfl) (by kernel_rfl) rfl, call_at (onlyC_at rfl ((tabC_tln rfl).trans (tabC_hd ..))), call_at (onlyC_at rfl ((tabC_tlf rfl).trans ((tabC_tlf rfl).trans (tabC_hd ..)))), ⟨⟨(congrArg fstO v1).trans rfl, hav⟩, trivial⟩, rfl⟩) (fun F S hq => ?_) (fun r hne hq => absurd (congrArg Prod.fst hq) hne)
    cases hq
    rw [e1]
    refine Trip.less (fr' := fG6 a b z true (Uv 4 (u :: e))) (st' := SX O (tA (vT 3 t)) (mO t) (rT t) (Ux (u :: e))) ?_ (stepN1 hO hT htl hz hu)
    exact Wk.heldX (kb := 1) [0, 1, 2, 3, 20] (by kernel_rfl) (by kernel_rfl) [2, 3, 8, 9, 11, 12, 15] (by kernel_rfl) (.came hO rfl (by kernel_rfl) <| .cons 1 (tA (vT 3 t)) rfl (by kernel_rfl) (.of rfl) <| .cons 2 (mO t) rfl (by kernel_rfl) mO_ren <| .cons 3 (rT t) rfl (by kernel_rfl) (.row gU_refs) <| .cons 20 (Ux (u :: e)) rfl (by kernel_rfl) (.row gU_refs) .nil)
theorem lkL_t {st : ASt} (hS : st.h.get 2 = some (mO t)) (h : hasK t g = true) : still st (aLookup EL 89 (.map (some 2)) (.int .u64 g) true st) = some (.tuple [.int .u64 (parK t g), .bool true], st) := by
  rw [lookup_at (by kernel_rfl) hS, h]; rfl
theorem lkL_n {st : ASt} (hS : st.h.get 2 = some (mO t)) (h : hasK t g = false) : still st (aLookup EL 89 (.map (some 2)) (.int .u64 g) true st) = some (.tuple [.int .u64 (.ofNat 0), .bool false], st) := by
  rw [lookup_at (by kernel_rfl) hS, h]; rfl
theorem comL {s s' : ASt} (hT : TreeOk t) (htl : t.length < 1000) (hS : TreeB s t) (hz : comV t a b = (z, w)) (hs : outS (gA 1 3 s.next) [(0, tA (vT 3 t)), (1, mO t), (2, rT t)] s (s.next + 110) = s') : Call1 Try.prog 24 [.ptr (some (1, 0)), .int .u64 a, .int .u64 b] s (.tuple [.int .u64 z, .bool w], s') := by
  have h := commonB_at (a := a) (b := b) hS hT (by have := up_len (t := t) (g := b); omega)
  rw [hz, hs] at h
  exact h
theorem nez {tt tt' : Nat} (h : ∀ z : Int, aBin EL .neq 48 (.tmp tt) (.tmp tt') (.int .u64 z) (.int .u64 z) = some (.bool (!eqF z z))) : still S (aBin EL .neq 48 (.tmp tt) (.tmp tt') (.int .u64 z) (.int .u64 z)) = some (.bool false, S) := by
  rw [h, eqF_self]; rfl
theorem stepH {r : Int} (hO : Came O) (hT : TreeOk t) (hR : RootOk t r) (htl : t.length < 1000) : Trip Try.prog 1 none (dropC 3 c6) (fG3 a b) (SOt O t) QT := by
  have e1 : dropC 2 (dropC 3 c6) = dropC 6 c6 := by kernel_rfl
  have hst : ∀ {F : AFr} {w : Bool} {z : Int}, F = fG5 a b z w → Wk 1 F (mkSt [(0, O), (1, tA (vT 3 t)), (2, mO t), (3, rT t)] 224) (fG5 a b z w) (SOt O t) := fun h => by
    subst h
    exact Wk.heldX (kb := 1) [0, 1, 2, 3] (by kernel_rfl) (by kernel_rfl) [2, 3, 8, 9, 11, 12] (by kernel_rfl) (.came hO rfl (by kernel_rfl) <| .cons 1 (tA (vT 3 t)) rfl (by kernel_rfl) (.of rfl) <| .cons 2 (mO t) rfl (by kernel_rfl) mO_ren <| .cons 3 (rT t) rfl (by kernel_rfl) (.row gU_refs) .nil)
  have h000 : ∀ (ha : hasK t a = false) , Trip Try.prog 1 none (dropC 3 c6) (fG3 a b) (SOt O t) QT := fun ha => by
    have hv : comV t a b = (0, false) := by unfold comV; rw [ha]; rfl
    have hv2 : comV t b a = (0, false) := by rw [comV_sym hT]; exact hv
    refine Trip.preY ELok (sum := smG (tabC [_, _])) (onlyC_ok (tabC_ok fun w he => by
      simp only [List.mem_cons, List.not_mem_nil, or_false] at he
      rcases he with rfl | rfl
      · exact comL (s := vcH000_s0 O (vT 3 t) (mO t) (rT t)) hT htl ⟨by kernel_rfl, by kernel_rfl, by kernel_rfl, Nat.le_of_ble_eq_true (by kernel_rfl)⟩ hv (by kernel_rfl : _ = vcH000_s1 O (vT 3 t) (mO t) (rT t))
      · exact comL (s := vcH000_s1 O (vT 3 t) (mO t) (rT t)) hT htl ⟨by kernel_rfl, by kernel_rfl, by kernel_rfl, Nat.le_of_ble_eq_true (by kernel_rfl)⟩ hv2 (by kernel_rfl : _ = vcH000_s2 O (vT 3 t) (mO t) (rT t)))) (k := 2) (kf := [2, 3, 8, 9, 11, 12]) (ko := KO260) (by kernel_rfl)
      (Q1 := fun q => q = (.normal, fG5 a b 0 false, vcH000_s2 O (vT 3 t) (mO t) (rT t))) (Eq.mp (vcH000 (tabC [_, _]) a b 0 (parK t a) (parK t b) O (vT 3 t) (mO t) (rT t) (fun q => q = (.normal, fG5 a b 0 false, vcH000_s2 O (vT 3 t) (mO t) (rT t)))) ⟨call_at (onlyC_at rfl (tabC_hd ..)), call_at (onlyC_at rfl ((tabC_tln rfl).trans (tabC_hd ..))), nez (fun z => by kernel_rfl), lkL_n (by kernel_rfl) ha, rfl⟩) (fun F S hq => ?_) (fun r hne hq => absurd (congrArg Prod.fst hq) hne)
    cases hq
    rw [e1]
    exact Trip.less (hst rfl) (stepJ0 hO hT htl)
  have h100 : ∀ (ha : hasK t a = true) (hb : hasK t b = false) , Trip Try.prog 1 none (dropC 3 c6) (fG3 a b) (SOt O t) QT := fun ha hb => by
    have hv : comV t a b = (0, false) := by unfold comV; rw [ha, hb]; rfl
    have hv2 : comV t b a = (0, false) := by rw [comV_sym hT]; exact hv
    refine Trip.preY ELok (sum := smG (tabC [_, _])) (onlyC_ok (tabC_ok fun w he => by
      simp only [List.mem_cons, List.not_mem_nil, or_false] at he
      rcases he with rfl | rfl
      · exact comL (s := vcH100_s0 O (vT 3 t) (mO t) (rT t)) hT htl ⟨by kernel_rfl, by kernel_rfl, by kernel_rfl, Nat.le_of_ble_eq_true (by kernel_rfl)⟩ hv (by kernel_rfl : _ = vcH100_s1 O (vT 3 t) (mO t) (rT t))
      · exact comL (s := vcH100_s1 O (vT 3 t) (mO t) (rT t)) hT htl ⟨by kernel_rfl, by kernel_rfl, by kernel_rfl, Nat.le_of_ble_eq_true (by kernel_rfl)⟩ hv2 (by kernel_rfl : _ = vcH100_s2 O (vT 3 t) (mO t) (rT t)))) (k := 2) (kf := [2, 3, 8, 9, 11, 12]) (ko := KO260) (by kernel_rfl)
      (Q1 := fun q => q = (.normal, fG5 a b 0 false, vcH100_s2 O (vT 3 t) (mO t) (rT t))) (Eq.mp (vcH100 (tabC [_, _]) a b 0 (parK t a) (parK t b) O (vT 3 t) (mO t) (rT t) (fun q => q = (.normal, fG5 a b 0 false, vcH100_s2 O (vT 3 t) (mO t) (rT t)))) ⟨call_at (onlyC_at rfl (tabC_hd ..)), call_at (onlyC_at rfl ((tabC_tln rfl).trans (tabC_hd ..))), nez (fun z => by kernel_rfl), lkL_t (by kernel_rfl) ha, lkL_n (by kernel_rfl) hb, rfl⟩) (fun F S hq => ?_) (fun r hne hq => absurd (congrArg Prod.fst hq) hne)
    cases hq
    rw [e1]
    exact Trip.less (hst rfl) (stepJ0 hO hT htl)
  have h111 : ∀ {z : Int} (ha : hasK t a = true) (hb : hasK t b = true) (hcm : comm t a b = some z) , Trip Try.prog 1 none (dropC 3 c6) (fG3 a b) (SOt O t) QT := fun {z} ha hb hcm => by
    have hv : comV t a b = (z, true) := by unfold comV; rw [ha, hb, hcm]; rfl
    have hv2 : comV t b a = (z, true) := by rw [comV_sym hT]; exact hv
    refine Trip.preY ELok (sum := smG (tabC [_, _])) (onlyC_ok (tabC_ok fun w he => by
      simp only [List.mem_cons, List.not_mem_nil, or_false] at he
      rcases he with rfl | rfl
      · exact comL (s := vcH111_s0 O (vT 3 t) (mO t) (rT t)) hT htl ⟨by kernel_rfl, by kernel_rfl, by kernel_rfl, Nat.le_of_ble_eq_true (by kernel_rfl)⟩ hv (by kernel_rfl : _ = vcH111_s1 O (vT 3 t) (mO t) (rT t))
      · exact comL (s := vcH111_s1 O (vT 3 t) (mO t) (rT t)) hT htl ⟨by kernel_rfl, by kernel_rfl, by kernel_rfl, Nat.le_of_ble_eq_true (by kernel_rfl)⟩ hv2 (by kernel_rfl : _ = vcH111_s2 O (vT 3 t) (mO t) (rT t)))) (k := 2) (kf := [2, 3, 8, 9, 11, 12]) (ko := KO260) (by kernel_rfl)
      (Q1 := fun q => q = (.normal, fG5 a b z true, vcH111_s2 O (vT 3 t) (mO t) (rT t))) (Eq.mp (vcH111 (tabC [_, _]) a b z (parK t a) (parK t b) O (vT 3 t) (mO t) (rT t) (fun q => q = (.normal, fG5 a b z true, vcH111_s2 O (vT 3 t) (mO t) (rT t)))) ⟨call_at (onlyC_at rfl (tabC_hd ..)), call_at (onlyC_at rfl ((tabC_tln rfl).trans (tabC_hd ..))), nez (fun z => by kernel_rfl), lkL_t (by kernel_rfl) ha, lkL_t (by kernel_rfl) hb, rfl⟩) (fun F S hq => ?_) (fun r hne hq => absurd (congrArg Prod.fst hq) hne)
    cases hq
    rw [e1]
    exact Trip.less (hst rfl) (stepJ1 hO hT htl hcm)
  cases ha : hasK t a with
  | false => exact h000 ha
  | true =>
    cases hb : hasK t b with
    | false => exact h100 ha hb
    | true =>
      obtain ⟨c, hc⟩ := comm_is hT hR ha hb
      exact h111 ha hb hc
theorem law (I0 : SlArg EO 49 2 0 bs.length A O (bs.flatMap encB)) (I : SlArg EL 49 2 0 bs.length A O (bs.flatMap encB)) (hO : CameF O A) (hA : KeptV 1 A) : Trip Try.prog 1 none c6 (F6 g A a b) (S0 O) QT := by
  have hgt : ∀ {S : ASt} {w : Bool}, decide (60 < bs.length) = w → still S (aBin EL .gtr 3 (.tmp 4) (.const (.int .i64 60)) (.int .i64 (.ofNat bs.length)) (.int .i64 (.ofNat 60))) = some (.bool w, S) := fun {S w} hw => by
    have h : ∀ w : Int, aBin EL .gtr 3 (.tmp 4) (.const (.int .i64 60)) (.int .i64 w) (.int .i64 (.ofNat 60)) = some (.bool (ltF (.ofNat 60) w)) := fun w => by kernel_rfl
    rw [h, ltF_nn, hw]; rfl
  by_cases hl : 60 < bs.length
  · exact preRet (sum := smG (tabC [_])) (onlyC_ok (tabC_ok fun w he => by
      simp only [List.mem_cons, List.not_mem_nil, or_false] at he
      subst he
      exact (known_at : Call1 Try.prog 21 [] (vcG1_s0 O) _))) (k := 3) (by kernel_rfl) (Eq.mp (vcG1 (tabC [_]) g A a b O bs.length (fun q => q = (.ret, some (.bool true)))) ⟨I.len _, hgt (decide_eq_true hl), call_at (onlyC_at rfl (tabC_hd ..)), rfl⟩)
  · have hd : decide (60 < bs.length) = false := decide_eq_false hl
    cases ho : ofR g bs with
    | no e =>
      rcases ofR_err ho with rfl | rfl
      · exact preRet (sum := smG (tabC [_, _])) (onlyC_ok (tabC_ok fun w he => by
          simp only [List.mem_cons, List.not_mem_nil, or_false] at he
          rcases he with rfl | rfl
          · exact of_no I0 hO hA (by omega) ho
          · exact (known_at : Call1 Try.prog 21 [] (vcG2_s1 O) _))) (k := 3) (by kernel_rfl) (Eq.mp (vcG2 (tabC [_, _]) g A a b O bs.length (fun q => q = (.ret, some (.bool true)))) ⟨I.len _, hgt hd, call_at (onlyC_at rfl (tabC_hd ..)), call_at (onlyC_at rfl ((tabC_tlf rfl).trans (tabC_hd ..))), rfl⟩)
      · exact preRet (sum := smG (tabC [_, _])) (onlyC_ok (tabC_ok fun w he => by
          simp only [List.mem_cons, List.not_mem_nil, or_false] at he
          rcases he with rfl | rfl
          · exact of_no I0 hO hA (by omega) ho
          · exact (known_at : Call1 Try.prog 21 [] (vcG2b_s1 O) _))) (k := 3) (by kernel_rfl) (Eq.mp (vcG2b (tabC [_, _]) g A a b O bs.length (fun q => q = (.ret, some (.bool true)))) ⟨I.len _, hgt hd, call_at (onlyC_at rfl (tabC_hd ..)), call_at (onlyC_at rfl ((tabC_tlf rfl).trans (tabC_hd ..))), rfl⟩)
    | ok t =>
      obtain ⟨hT, htl⟩ := ofR_ok ho
      refine Trip.preY ELok (sum := smG (tabC [_])) (onlyC_ok (tabC_ok fun w he => by
        simp only [List.mem_cons, List.not_mem_nil, or_false] at he
        subst he
        exact of_ok I0 hO hA (by omega) ho)) (k := 3) (kf := [2, 3, 8, 9]) (ko := KO260) (by kernel_rfl) (Q1 := fun q => q = (.normal, xFr [(2, .int .u64 a), (3, .int .u64 b), (8, .bool false), (9, .ptr (some (2, 0)))] 136, vcG3_s1 O (vT 4 t) (mO t) (rT t)))
        (Eq.mp (vcG3 (tabC [_]) g A a b O bs.length (vT 4 t) (mO t) (rT t) (fun q => q = (.normal, xFr [(2, .int .u64 a), (3, .int .u64 b), (8, .bool false), (9, .ptr (some (2, 0)))] 136, vcG3_s1 O (vT 4 t) (mO t) (rT t)))) ⟨I.len _, hgt hd, call_at (onlyC_at rfl (tabC_hd ..)), rfl⟩) (fun F S hq => ?_) (fun r hne hq => absurd (congrArg Prod.fst hq) hne)
      cases hq
      refine Trip.less (fr' := fG3 a b) (st' := SOt O t) ?_ (stepH hO.came hT (ofR_root ho) (by omega))
      exact Wk.heldX (kb := 1) [0, 2, 3, 4] (by kernel_rfl) (by kernel_rfl) [2, 3, 8, 9] (by kernel_rfl) (.came hO.came rfl (by kernel_rfl) <| .cons 2 (.cells [.map (some 3), vT 4 t] true) rfl (by kernel_rfl) (.of rfl) <| .cons 3 (mO t) rfl (by kernel_rfl) mO_ren <| .cons 4 (rT t) rfl (by kernel_rfl) (.row gU_refs) .nil)
end
end Go.Proofs.Ytidmijpfoodkoaa.gho
end

section
open Go Go.Ax Go.Proofs.Ytidmijpfoodkoaa
namespace Go.Proofs.Ytidmijpfoodkoaa.gho
set_option linter.unusedVariables false
noncomputable section
open Go.ChangeShapes Go.WideShapes Go.ChangeAt Go.RowKit Go.Deep
theorem own : ownKnob Try.prog.godebug = none := by kernel_rfl
theorem laidOut : laidOutB Try.prog = true := by kernel_rfl
theorem same_below {W W' : World} (h : Below W.heap.size W W') {p : MemPlace} (hp : p.block < W.heap.size) : W.sameAt W' p := by
  cases p with
  | cell b off => exact h.cell (p := ⟨b, off, none⟩) hp
  | map b => exact h.block b hp
theorem spot_none {W : World} {a : Addr} {v : Value} (h : W.cell? (a.add 0) = some v) : a.spot = none := by
  obtain ⟨b, off, spot⟩ := a
  cases spot with
  | none => rfl
  | some s =>
    unfold World.cell? at h
    simp only [Addr.add, if_true] at h
    split at h
    · simp at h
    · cases h
theorem el49 : sliceT EL 49 = some 2 := by kernel_rfl
theorem eo49 : sliceT EO 49 = some 2 := by kernel_rfl
structure BArg (W : World) (l : List Br) (v : Value) (vl : AV) (o : AO) (r : Option (Nat × Nat × List AV)) : Prop where
  at_ : ArgAt EL W 49 2 0 l.length v (l.flatMap encB) vl o r
  sl : SlArg EO 49 2 0 l.length vl o (l.flatMap encB)
  camef : CameF o vl
theorem encB_refs {l : List Br} : ∀ c, c ∈ l.flatMap encB → refsV 0 c := fun c hc => by
  obtain ⟨x, _, hx⟩ := List.mem_flatMap.1 hc
  simp only [encB, List.mem_cons, List.not_mem_nil, or_false] at hx
  rcases hx with rfl | rfl <;> simp [refsV, gU]
theorem arg_births {W : World} {a : Addr} {len cap : Nat} {V0 V1 : Nat → Value} (hl : len ≤ cap) (hi : ∀ i, i < len → W.cell? (a.add (i * 2)) = some (V0 i) ∧ W.cell? (a.add (i * 2 + 1)) = some (V1 i) ∧ (∃ z, V0 i = .int .u64 z) ∧ ∃ z, V1 i = .int .u64 z) :
    ∃ (l : List Br) (vl : AV) (o : AO) (r : Option (Nat × Nat × List AV)), BArg W l (.slice (some a) len cap) vl o r := by
  by_cases h0 : len = 0
  · subst h0
    exact ⟨[], _, _, _, ArgAt.mk_zero el49, SlArg.zero eo49, .inl ⟨rfl, fun ids => rfl⟩⟩
  · have hz : ∃ f : Nat → Br, ∀ i, i < len → V0 i = .int .u64 (f i).1 ∧ V1 i = .int .u64 (f i).2 := by
      refine ⟨fun i => (match V0 i with | .int _ z => z | _ => 0, match V1 i with | .int _ z => z | _ => 0), fun i hlt => ?_⟩
      obtain ⟨_, _, ⟨z, hz⟩, t, ht⟩ := hi i hlt
      simp only [hz, ht, and_self]
    obtain ⟨f, hf⟩ := hz
    have hsp := spot_none (show W.cell? (a.add 0) = some (V0 0) by have := (hi 0 (by omega)).1; rwa [Nat.zero_mul] at this)
    obtain ⟨b, off, spot⟩ := a
    simp only at hsp
    subst hsp
    have hlen : ((List.range len).map f).length = len := by simp
    have hrow : RowAt W b off (((List.range len).map f).flatMap encB) := fun k v hk => by
      have hk2 : k < len * 2 := by
        have := (List.getElem?_eq_some_iff.1 hk).1
        rw [fm_len encB_len, hlen] at this; exact this
      have hk3 : k / 2 < len := by omega
      have hx : ((List.range len).map f)[k / 2]? = some (f (k / 2)) := by simp [hk3]
      obtain ⟨c0, c1, _⟩ := hi (k / 2) hk3
      obtain ⟨f0, f1⟩ := hf (k / 2) hk3
      rcases Nat.mod_two_eq_zero_or_one k with e | e
      · have h2 := fm_get (enc := encB) encB_len hx (r := 0) rfl
        rw [show k / 2 * 2 + 0 = k by omega, hk] at h2
        simp only [Option.some.injEq] at h2
        subst h2
        refine ⟨rfl, _, ?_, fun ι => .int _ _⟩
        rw [← f0, ← c0, add_none]
        congr 2; omega
      · have h2 := fm_get (enc := encB) encB_len hx (r := 1) rfl
        rw [show k / 2 * 2 + 1 = k by omega, hk] at h2
        simp only [Option.some.injEq] at h2
        subst h2
        refine ⟨rfl, _, ?_, fun ι => .int _ _⟩
        rw [← f1, ← c1, add_none]
        congr 2; omega
    have hne : ((List.range len).map f).flatMap encB ≠ [] := by intro e; have := congrArg List.length e; rw [fm_len encB_len, hlen] at this; simp at this; omega
    refine ⟨(List.range len).map f, .slice (some (0, 0)) len (.atl len), .cells (((List.range len).map f).flatMap encB) false, some (b, off, ((List.range len).map f).flatMap encB), ?_, ?_, .inr ⟨_, rfl, encB_refs⟩⟩
    · rw [hlen]
      exact ArgAt.mk_row el49 hne hl hrow
    · rw [hlen]
      exact SlArg.row eo49
def row0 (r : Option (Nat × Nat × List AV)) : Nat → Option (Nat × Nat × List AV)
  | 0 => r
  | _ => none
theorem walk {W : World} {v0 : Value} {l : List Br} {u0 : AV} {o0 : AO} {r0 : Option (Nat × Nat × List AV)} {g a b : Int} (A0 : BArg W l v0 u0 o0 r0) :
    Calls Try.prog 6 #[.int .u64 g, v0, .int .u64 a, .int .u64 b] W fun e w' => e = .returned (.bool true) ∧ Below W.heap.size W w' := by
  have hgl : GlobOK W := by intro _ _ h; cases h
  have hrow : ∀ i r, row0 r0 i = some r → r.2.2 ≠ [] ∧ RowAt W r.1 r.2.1 r.2.2 := fun i r h => by
    match i, h with
    | 0, h => exact A0.at_.row r h
  have hsr := rowsO_ok hgl (n := 1) (rows := row0 r0) hrow (st := S0 o0) rfl (fun i a hi => by
    obtain ⟨rfl, rfl⟩ := get1' hi
    exact ⟨by omega, A0.at_.obj⟩)
  have w0 : VR (rowsRen W 1 (row0 r0)) u0 v0 := A0.at_.vr _ fun q hq => rowsRen_at (i := 0) (by omega) hq (A0.at_.row q hq).1 (A0.at_.row q hq).2
  have hv : VRs (rowsRen W 1 (row0 r0)) [gU g, u0, gU a, gU b] #[.int .u64 g, v0, .int .u64 a, .int .u64 b] := ⟨rfl, fun i x x' hx hx' => by
    match i with
    | 0 => simp at hx hx'; subst hx; subst hx'; exact .int _ _
    | 1 => simp at hx hx'; subst hx; subst hx'; exact w0
    | 2 => simp at hx hx'; subst hx; subst hx'; exact .int _ _
    | 3 => simp at hx hx'; subst hx; subst hx'; exact .int _ _
    | i + 4 => simp at hx⟩
  have hfr : ({ m := putArgs [gU g, u0, gU a, gU b] 0 .e, n := Try.f6.ntmps, defs := [] } : AFr) = F6 g u0 a b := by kernel_rfl
  refine law_calls ELok (fn := Try.f6) (by kernel_rfl) (c := c6) (by kernel_rfl) (by kernel_rfl) (fun _ h => h) (fun k hk => .inr hk) hsr hv ?_
  rw [hfr]
  exact law A0.sl A0.at_.sl A0.camef (A0.at_.kept 1 (by omega))
set_option maxRecDepth 100000 in
theorem lifted (os : Os) (started : os.Started) (H : Type) (enc : TypeId × Value → H) :
    ReturnsInHanded {} Try.checked os 6 .any (Rows.ghostCommonSpec.pre6 enc Try.prog Try.f6 Rows.ghostCommonRow.domain false) (Rows.ghostCommonSpec.post enc Try.prog Try.f6 false true false false) := by
  refine returnsInHanded_of_change (C := Try.checked) own started (by kernel_rfl) Try.func6
    (ChangeSpec.witness6 (enc := enc) (C := Try.checked) false ⟨#[], #[.int .u64 0, .slice none 0 0, .int .u64 0, .int .u64 0], []⟩ 8 (by kernel_rfl) (by kernel_rfl) (by kernel_rfl) (by kernel_rfl)) ?_
  intro W base args ds gs before hval0 hW hcnd _
  have hval : ∀ (j : Nat) t v, Try.f6.params[j]? = some t → args[j]? = some v → Value.okWide Try.prog W .any base t v := hval0
  have hW' := hW
  obtain ⟨p, q, hA0, hV, rfl, hfz, hnd⟩ := hW
  have hA : DataW.TrodAll enc Try.prog W 0 (fun _ => true) true Try.f6.params.toList args.toList ds p := hA0
  rw [Try.params6] at hA hval
  obtain ⟨v0, v1, v2, v3, d0, d1, d2, d3, p0, p1, p2, p3, rfl, rfl, rfl, h0, h1, h2, h3⟩ := trodAll_four hA
  obtain ⟨rfl, rfl⟩ := trodVars_none hV
  obtain ⟨g, rfl, rfl, rfl, wg⟩ := open_int Try.underlying48 (hval 0 48 v0 rfl rfl) h0
  obtain ⟨a0, len, cap, rfl⟩ := okWide_slice Try.underlying49 (hval 1 49 v1 rfl rfl)
  obtain ⟨a, rfl, rfl, rfl, wa⟩ := open_int Try.underlying48 (hval 2 48 v2 rfl rfl) h2
  obtain ⟨b, rfl, rfl, rfl, wb⟩ := open_int Try.underlying48 (hval 3 48 v3 rfl rfl) h3
  have h1k := h1
  obtain ⟨fu1, hf1⟩ := h1
  clear hA0 hval0
  simp only [List.append_nil, List.nil_append] at hW'
  have hlt : ∀ x ∈ p1, x.block < W.heap.size := fun x hx => by simpa using hW'.lt x hx
  have g0 : ∃ (l : List Br) (vl : AV) (o : AO) (r : Option (Nat × Nat × List AV)), BArg W l (.slice a0 len cap) vl o r := by
    rcases open_slice_pairs Try.underlying49 Try.underlying73 (by kernel_rfl) rfl rfl (by kernel_rfl) (by kernel_rfl) hf1 with ⟨hcs, _⟩ | ⟨a, len', cap', m, n, V0, V1, D0, D1, P0, P1, hcs, _, hl, _, hm, hx, hi⟩
    · simp [Value.cells] at hcs
      obtain ⟨rfl, rfl, rfl⟩ := hcs
      exact ⟨[], _, _, _, ArgAt.mk_nil el49, SlArg.none eo49, .inl ⟨rfl, fun ids => rfl⟩⟩
    · simp [Value.cells] at hcs
      obtain ⟨rfl, rfl, rfl⟩ := hcs
      refine arg_births (V0 := V0) (V1 := V1) hl fun i hlt => ?_
      obtain ⟨g0, g1, g2, g3⟩ := hi i (by rw [hm]; split <;> omega)
      obtain ⟨z, e1, _⟩ := DataW.trod_int Try.underlying48 g2
      obtain ⟨t, e2, _⟩ := DataW.trod_int Try.underlying48 g3
      exact ⟨g0, g1, ⟨z, by simpa using e1⟩, t, by simpa using e2⟩
  obtain ⟨l, vl, o0, r0, A0⟩ := g0
  refine (walk A0).mono fun e W' ⟨he, bel⟩ => ?_
  subst he
  have ARG1 : DataW.Trod enc Try.prog W' 0 (fun x => decide (x < W.heap.size)) true 49 (.slice a0 len cap) d1 p1 :=
    WideElems.Trod_stays laidOut (by kernel_rfl) (of_decide_eq_true (by kernel_rfl)) h1k (fun x hx => same_below bel (hlt x hx)) (fun x hx => by simpa using hlt x hx)
  exact ⟨_, rfl, _, _, _, [], _, [], hW', trodAll_mk1 (shut_bool Try.underlying4 _), trodAll_mk4 (shut_int Try.underlying48 wg) ARG1 (shut_int Try.underlying48 wa) (shut_int Try.underlying48 wb), rfl, bel.frame _, fun h => by cases h⟩
theorem over : Rows.ghostCommonRow.holds Try.pinned (OpenSpec.ofChange Rows.ghostCommonSpec) :=
  OpenClaim.holds_of_wide 6 Try.f6 rfl rfl rfl rfl rfl rfl rfl ⟨rfl, rfl, rfl, rfl, rfl⟩ rfl rfl rfl rfl rfl (by kernel_rfl) Try.func6 (by kernel_rfl)
    (of_decide_eq_true (by kernel_rfl)) (by unfold Func.isWrapper; first | (rw [if_pos (by decide +kernel)]; kernel_rfl) | (rw [if_neg (by decide +kernel)]; exact ⟨rfl, rfl⟩))
    (fun os started H enc _ => lifted os started H enc)
theorem proved : Rows.GhostCommonSaid := over
end
#print axioms proved
end Go.Proofs.Ytidmijpfoodkoaa.gho
end
