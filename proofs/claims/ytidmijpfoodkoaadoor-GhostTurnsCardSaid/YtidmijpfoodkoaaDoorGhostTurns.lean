/-
  PROVED HERE: 'Rows.GhostTurnsCardSaid': for every first generation, every row of births and every two lines the call of the law's function returns true, and the row reads as it did. No condition. THE WALK is a run of the function's text in an abstract machine (the texts WaA to WaF show that it is sound), with the row and the lines open: the tree's and the document's functions by contracts (WgA, WgB, WgC); the package variable is told by WgD.
-/
import Derived.Test.YtidmijpfoodkoaaDoorWgC
import Derived.Test.YtidmijpfoodkoaaDoorCards
import Derived.Test.YtidmijpfoodkoaaDoorTie
import Derived.Test.YtidmijpfoodkoaaDoorWgD
import Derived.WalkKit
import Derived.ProofKit
import Derived.OpenShut
import Derived.ShutString
import Derived.ChangeOld
import Derived.ChangeSlices
import Derived.Below
import Derived.Carry
import Derived.Deep.SlicePairs
import Derived.Deep.Grids
import Derived.WideKeyArgs
section
open Go Go.Ax Go.Proofs
namespace Go.Proofs.YtidmijpfoodkoaaDoor.gho
set_option linter.unusedVariables false
noncomputable def EL : Env := envEx Tryd.prog [0, 3, 4, 22, 23, 26, 29, 30, 31, 34, 40, 43, 46] [(3, Tryd.f3), (4, Tryd.f4), (7, Tryd.f7), (10, Tryd.f10)] []
noncomputable def smG (q : CallT) : CallT := onlyC [5, 6, 8, 9] q
noncomputable def flL : List (Nat × Fl) := [(4, ⟨[4, 5], [], [], []⟩), (7, fl0), (10, ⟨[5], [], [], []⟩)]
noncomputable def c3 : Code := Option.getD Tryd.f3.body .skip
def bxL (x : Ln) : AO := .cells [gU x.now, gU x.bef, gU x.o0, gU x.o1] true
noncomputable def F3 (g : Int) (A : AV) (x y : Ln) : AFr := { m := putArgs [gU g, A, x.av, y.av] 0 .e, n := 61, defs := [] }
noncomputable def fT (v : Nat) : AFr := xFr [(6, pO 4), (7, pO 5), (8, .bool false), (9, pO 1)] 61
noncomputable def ST (O V : AO) (M R : AO) (x y : Ln) : ASt := mkSt [(0, O), (1, V), (2, M), (3, R), (4, bxL x), (5, bxL y)] 6
noncomputable def tT1 (q : CallT) (g : Int) (A : AV) (x y : Ln) (O : AO) (n : Nat) : Tr (Exit × AFr × ASt) := (TM EL (smG q) flL fl0 60).ex ⟨[14], [13], [], []⟩ none (preC 3 c3) (F3 g A x y) (S0 O)
noncomputable def tT2 (q : CallT) (g : Int) (A : AV) (x y : Ln) (O : AO) (n : Nat) : Tr (Exit × AFr × ASt) := (TM EL (smG q) flL fl0 60).ex ⟨[18, 27], [13, 22], [], []⟩ none (preC 3 c3) (F3 g A x y) (S0 O)
noncomputable def tT3 (q : CallT) (g : Int) (A : AV) (x y : Ln) (O : AO) (n : Nat) : Tr (Exit × AFr × ASt) := (TM EL (smG q) flL fl0 60).ex ⟨[18, 27], [13, 22], [], []⟩ none (preC 3 c3) (F3 g A x y) (S0 O)
noncomputable def tT4 (q : CallT) (g : Int) (A : AV) (x y : Ln) (O : AO) (n : Nat) (V : AV) (M R : AO) : Tr (Exit × AFr × ASt) := (TM EL (smG q) flL fl0 60).ex ⟨[18, 27], [13, 22], [], []⟩ none (preC 3 c3) (F3 g A x y) (S0 O)
noncomputable def tT5 (q : CallT) (x y : Ln) (O V M R : AO) (v w : Nat) : Tr (Exit × AFr × ASt) := (TM EL (smG q) flL fl0 60).ex ⟨[32, 36, 40, 41, 42, 59], [44, 51], [], []⟩ none (dropC 3 c3) (fT 0) (ST O V M R x y)
noncomputable def tT6 (q : CallT) (x y : Ln) (O V M R : AO) (v w : Nat) : Tr (Exit × AFr × ASt) := (TM EL (smG q) flL fl0 60).ex ⟨[32, 36, 40, 41, 42, 59], [44, 51], [], []⟩ none (dropC 3 c3) (fT 0) (ST O V M R x y)
noncomputable def vcT1_s0 (x : Ln) (y : Ln) (O : AO) : ASt := mkSt [(0, O), (1, .cells [.int .u64 x.now, .int .u64 x.bef, .int .u64 x.o0, .int .u64 x.o1] true), (2, .cells [.int .u64 y.now, .int .u64 y.bef, .int .u64 y.o0, .int .u64 y.o1] true)] 3
theorem vcT1 (q : CallT) (g : Int) (A : AV) (x : Ln) (y : Ln) (O : AO) (n : Nat) (Q : Exit × Option AV → Prop) :
  (aBuiltinM EL .len [23] [A] (vcT1_s0 x y O) = some (.int .i64 (.ofNat n), vcT1_s0 x y O) ∧ still (vcT1_s0 x y O) (aBin EL .gtr 3 (.tmp 4) (.const (.int .i64 60)) (.int .i64 (.ofNat n)) (.int .i64 (.ofNat 60))) = some (.bool true, vcT1_s0 x y O) ∧ (M EL (drawA EL) (smG q) 54).call 5 [] (vcT1_s0 x y O) = some (.bool true, vcT1_s0 x y O) ∧ Q (.ret, some (.bool true))) =
  (tT1 q g A x y O n).allY (fun r => Q (r.1, ans (leaveA EL Tryd.f3 r.2.1 r.2.2))) (.v (.int .i64 (.ofNat n), vcT1_s0 x y O) (.v (.bool true, vcT1_s0 x y O) (.v (.bool true, vcT1_s0 x y O) .nil))) := by kernel_rfl
noncomputable def vcT2_s0 (x : Ln) (y : Ln) (O : AO) : ASt := mkSt [(0, O), (1, .cells [.int .u64 x.now, .int .u64 x.bef, .int .u64 x.o0, .int .u64 x.o1] true), (2, .cells [.int .u64 y.now, .int .u64 y.bef, .int .u64 y.o0, .int .u64 y.o1] true)] 3
noncomputable def vcT2_s1 (x : Ln) (y : Ln) (O : AO) : ASt := mkSt [(0, O), (1, .cells [.int .u64 x.now, .int .u64 x.bef, .int .u64 x.o0, .int .u64 x.o1] true), (2, .cells [.int .u64 y.now, .int .u64 y.bef, .int .u64 y.o0, .int .u64 y.o1] true)] 103
theorem vcT2 (q : CallT) (g : Int) (A : AV) (x : Ln) (y : Ln) (O : AO) (n : Nat) (Q : Exit × Option AV → Prop) :
  (aBuiltinM EL .len [23] [A] (vcT2_s0 x y O) = some (.int .i64 (.ofNat n), vcT2_s0 x y O) ∧ still (vcT2_s0 x y O) (aBin EL .gtr 3 (.tmp 4) (.const (.int .i64 60)) (.int .i64 (.ofNat n)) (.int .i64 (.ofNat 60))) = some (.bool false, vcT2_s0 x y O) ∧ (M EL (drawA EL) (smG q) 56).call 6 [.int .u64 g, A] (vcT2_s0 x y O) = some (.tuple [.ptr none, .int .i64 (.ofNat 2)], vcT2_s1 x y O) ∧ (M EL (drawA EL) (smG q) 53).call 5 [] (vcT2_s1 x y O) = some (.bool true, vcT2_s1 x y O) ∧ Q (.ret, some (.bool true))) =
  (tT2 q g A x y O n).allY (fun r => Q (r.1, ans (leaveA EL Tryd.f3 r.2.1 r.2.2))) (.v (.int .i64 (.ofNat n), vcT2_s0 x y O) (.v (.bool false, vcT2_s0 x y O) (.v (.tuple [.ptr none, .int .i64 (.ofNat 2)], vcT2_s1 x y O) (.v (.bool true, vcT2_s1 x y O) .nil)))) := by kernel_rfl
noncomputable def vcT3_s0 (x : Ln) (y : Ln) (O : AO) : ASt := mkSt [(0, O), (1, .cells [.int .u64 x.now, .int .u64 x.bef, .int .u64 x.o0, .int .u64 x.o1] true), (2, .cells [.int .u64 y.now, .int .u64 y.bef, .int .u64 y.o0, .int .u64 y.o1] true)] 3
noncomputable def vcT3_s1 (x : Ln) (y : Ln) (O : AO) : ASt := mkSt [(0, O), (1, .cells [.int .u64 x.now, .int .u64 x.bef, .int .u64 x.o0, .int .u64 x.o1] true), (2, .cells [.int .u64 y.now, .int .u64 y.bef, .int .u64 y.o0, .int .u64 y.o1] true)] 103
theorem vcT3 (q : CallT) (g : Int) (A : AV) (x : Ln) (y : Ln) (O : AO) (n : Nat) (Q : Exit × Option AV → Prop) :
  (aBuiltinM EL .len [23] [A] (vcT3_s0 x y O) = some (.int .i64 (.ofNat n), vcT3_s0 x y O) ∧ still (vcT3_s0 x y O) (aBin EL .gtr 3 (.tmp 4) (.const (.int .i64 60)) (.int .i64 (.ofNat n)) (.int .i64 (.ofNat 60))) = some (.bool false, vcT3_s0 x y O) ∧ (M EL (drawA EL) (smG q) 56).call 6 [.int .u64 g, A] (vcT3_s0 x y O) = some (.tuple [.ptr none, .int .i64 (.ofNat 6)], vcT3_s1 x y O) ∧ (M EL (drawA EL) (smG q) 53).call 5 [] (vcT3_s1 x y O) = some (.bool true, vcT3_s1 x y O) ∧ Q (.ret, some (.bool true))) =
  (tT3 q g A x y O n).allY (fun r => Q (r.1, ans (leaveA EL Tryd.f3 r.2.1 r.2.2))) (.v (.int .i64 (.ofNat n), vcT3_s0 x y O) (.v (.bool false, vcT3_s0 x y O) (.v (.tuple [.ptr none, .int .i64 (.ofNat 6)], vcT3_s1 x y O) (.v (.bool true, vcT3_s1 x y O) .nil)))) := by kernel_rfl
noncomputable def vcT4_s0 (x : Ln) (y : Ln) (O : AO) : ASt := mkSt [(0, O), (1, .cells [.int .u64 x.now, .int .u64 x.bef, .int .u64 x.o0, .int .u64 x.o1] true), (2, .cells [.int .u64 y.now, .int .u64 y.bef, .int .u64 y.o0, .int .u64 y.o1] true)] 3
noncomputable def vcT4_s1 (x : Ln) (y : Ln) (O : AO) (V : AV) (M : AO) (R : AO) : ASt := mkSt [(0, O), (1, .cells [.int .u64 x.now, .int .u64 x.bef, .int .u64 x.o0, .int .u64 x.o1] true), (2, .cells [.int .u64 y.now, .int .u64 y.bef, .int .u64 y.o0, .int .u64 y.o1] true), (4, .cells [.map (some 5), V] true), (5, M), (6, R)] 103
theorem vcT4 (q : CallT) (g : Int) (A : AV) (x : Ln) (y : Ln) (O : AO) (n : Nat) (V : AV) (M : AO) (R : AO) (Q : Exit × AFr × ASt → Prop) :
  (aBuiltinM EL .len [23] [A] (vcT4_s0 x y O) = some (.int .i64 (.ofNat n), vcT4_s0 x y O) ∧ still (vcT4_s0 x y O) (aBin EL .gtr 3 (.tmp 4) (.const (.int .i64 60)) (.int .i64 (.ofNat n)) (.int .i64 (.ofNat 60))) = some (.bool false, vcT4_s0 x y O) ∧ (Ax.M EL (drawA EL) (smG q) 56).call 6 [.int .u64 g, A] (vcT4_s0 x y O) = some (.tuple [.ptr (some (4, 0)), .int .i64 (.ofNat 0)], vcT4_s1 x y O V M R) ∧ Q (.normal, xFr [(6, .ptr (some (1, 0))), (7, .ptr (some (2, 0))), (8, .bool false), (9, .ptr (some (4, 0)))] 61, vcT4_s1 x y O V M R)) =
  (tT4 q g A x y O n V M R).allY (fun r => Q (canR [6, 7, 8, 9] KO130 r)) (.v (.int .i64 (.ofNat n), vcT4_s0 x y O) (.v (.bool false, vcT4_s0 x y O) (.v (.tuple [.ptr (some (4, 0)), .int .i64 (.ofNat 0)], vcT4_s1 x y O V M R) .nil))) := by kernel_rfl
noncomputable def vcT5_s0 (x : Ln) (y : Ln) (O : AO) (V : AO) (M : AO) (R : AO) : ASt := mkSt [(0, O), (1, V), (2, M), (3, R), (4, .cells [.int .u64 x.now, .int .u64 x.bef, .int .u64 x.o0, .int .u64 x.o1] true), (5, .cells [.int .u64 y.now, .int .u64 y.bef, .int .u64 y.o0, .int .u64 y.o1] true)] 6
noncomputable def vcT5_s1 (x : Ln) (y : Ln) (O : AO) (V : AO) (M : AO) (R : AO) : ASt := mkSt [(0, O), (1, V), (2, M), (3, R), (4, .cells [.int .u64 x.now, .int .u64 x.bef, .int .u64 x.o0, .int .u64 x.o1] true), (5, .cells [.int .u64 y.now, .int .u64 y.bef, .int .u64 y.o0, .int .u64 y.o1] true)] 516
noncomputable def vcT5_s2 (x : Ln) (y : Ln) (O : AO) (V : AO) (M : AO) (R : AO) : ASt := mkSt [(0, O), (1, V), (2, M), (3, R), (4, .cells [.int .u64 x.now, .int .u64 x.bef, .int .u64 x.o0, .int .u64 x.o1] true), (5, .cells [.int .u64 y.now, .int .u64 y.bef, .int .u64 y.o0, .int .u64 y.o1] true)] 526
noncomputable def vcT5_s3 (x : Ln) (y : Ln) (O : AO) (V : AO) (M : AO) (R : AO) : ASt := mkSt [(0, O), (1, V), (2, M), (3, R), (4, .cells [.int .u64 x.now, .int .u64 x.bef, .int .u64 x.o0, .int .u64 x.o1] true), (5, .cells [.int .u64 y.now, .int .u64 y.bef, .int .u64 y.o0, .int .u64 y.o1] true)] 1036
noncomputable def vcT5_s4 (x : Ln) (y : Ln) (O : AO) (V : AO) (M : AO) (R : AO) : ASt := mkSt [(0, O), (1, V), (2, M), (3, R), (4, .cells [.int .u64 x.now, .int .u64 x.bef, .int .u64 x.o0, .int .u64 x.o1] true), (5, .cells [.int .u64 y.now, .int .u64 y.bef, .int .u64 y.o0, .int .u64 y.o1] true)] 1546
noncomputable def vcT5_s5 (x : Ln) (y : Ln) (O : AO) (V : AO) (M : AO) (R : AO) : ASt := mkSt [(0, O), (1, V), (2, M), (3, R), (4, .cells [.int .u64 x.now, .int .u64 x.bef, .int .u64 x.o0, .int .u64 x.o1] true), (5, .cells [.int .u64 y.now, .int .u64 y.bef, .int .u64 y.o0, .int .u64 y.o1] true), (1546, .cells [.int .u64 x.now, .int .u64 x.bef, .int .u64 x.o0, .int .u64 x.o1] true)] 1547
theorem vcT5 (q : CallT) (x : Ln) (y : Ln) (O : AO) (V : AO) (M : AO) (R : AO) (v : Nat) (w : Nat) (Q : Exit × Option AV → Prop) :
  ((Ax.M EL (drawA EL) (smG q) 58).call 8 [.ptr (some (1, 0)), .agg [.int .u64 x.now, .int .u64 x.bef, .int .u64 x.o0, .int .u64 x.o1], .agg [.int .u64 x.now, .int .u64 x.bef, .int .u64 x.o0, .int .u64 x.o1]] (vcT5_s0 x y O V M R) = some (.int .i64 (.ofNat 1), vcT5_s1 x y O V M R) ∧ (Ax.M EL (drawA EL) (smG q) 56).call 8 [.ptr (some (1, 0)), .agg [.int .u64 x.now, .int .u64 x.bef, .int .u64 x.o0, .int .u64 x.o1], .agg [.int .u64 y.now, .int .u64 y.bef, .int .u64 y.o0, .int .u64 y.o1]] (vcT5_s2 x y O V M R) = some (.int .i64 (.ofNat v), vcT5_s3 x y O V M R) ∧ (Ax.M EL (drawA EL) (smG q) 56).call 8 [.ptr (some (1, 0)), .agg [.int .u64 y.now, .int .u64 y.bef, .int .u64 y.o0, .int .u64 y.o1], .agg [.int .u64 x.now, .int .u64 x.bef, .int .u64 x.o0, .int .u64 x.o1]] (vcT5_s3 x y O V M R) = some (.int .i64 (.ofNat w), vcT5_s4 x y O V M R) ∧ (Ax.M EL (drawA EL) (smG q) 56).call 9 [.int .i64 (.ofNat w)] (vcT5_s4 x y O V M R) = some (.int .i64 (.ofNat v), vcT5_s4 x y O V M R) ∧ still (vcT5_s4 x y O V M R) (aBin EL .neq 34 (.tmp 36) (.tmp 41) (.int .i64 (.ofNat v)) (.int .i64 (.ofNat v))) = some (.bool false, vcT5_s4 x y O V M R) ∧ holdsO [(some (.agg [.int .u64 y.now, .int .u64 y.bef, .int .u64 y.o0, .int .u64 y.o1]), .agg [.int .u64 y.now, .int .u64 y.bef, .int .u64 y.o0, .int .u64 y.o1]), (some (.agg [.int .u64 x.now, .int .u64 x.bef, .int .u64 x.o0, .int .u64 x.o1]), .agg [.int .u64 x.now, .int .u64 x.bef, .int .u64 x.o0, .int .u64 x.o1])] ∧ still (vcT5_s5 x y O V M R) (aBin EL .eql 22 (.tmp 4) (.const (.int .u64 0)) (.int .u64 x.now) (.int .u64 (.ofNat 0))) = some (.bool true, vcT5_s5 x y O V M R) ∧ (Ax.M EL (drawA EL) (smG q) 56).call 5 [] (vcT5_s5 x y O V M R) = some (.bool true, vcT5_s5 x y O V M R) ∧ Q (.ret, some (.bool true))) =
  (tT5 q x y O V M R v w).allY (fun r => Q (r.1, ans (leaveA EL Tryd.f3 r.2.1 r.2.2))) (.v (.int .i64 (.ofNat 1), vcT5_s1 x y O V M R) (.v (.int .i64 (.ofNat v), vcT5_s3 x y O V M R) (.v (.int .i64 (.ofNat w), vcT5_s4 x y O V M R) (.v (.int .i64 (.ofNat v), vcT5_s4 x y O V M R) (.v (.bool false, vcT5_s4 x y O V M R) (.v (.bool true, vcT5_s5 x y O V M R) (.v (.bool true, vcT5_s5 x y O V M R) .nil))))))) := by kernel_rfl
noncomputable def vcT6_s0 (x : Ln) (y : Ln) (O : AO) (V : AO) (M : AO) (R : AO) : ASt := mkSt [(0, O), (1, V), (2, M), (3, R), (4, .cells [.int .u64 x.now, .int .u64 x.bef, .int .u64 x.o0, .int .u64 x.o1] true), (5, .cells [.int .u64 y.now, .int .u64 y.bef, .int .u64 y.o0, .int .u64 y.o1] true)] 6
noncomputable def vcT6_s1 (x : Ln) (y : Ln) (O : AO) (V : AO) (M : AO) (R : AO) : ASt := mkSt [(0, O), (1, V), (2, M), (3, R), (4, .cells [.int .u64 x.now, .int .u64 x.bef, .int .u64 x.o0, .int .u64 x.o1] true), (5, .cells [.int .u64 y.now, .int .u64 y.bef, .int .u64 y.o0, .int .u64 y.o1] true)] 516
noncomputable def vcT6_s2 (x : Ln) (y : Ln) (O : AO) (V : AO) (M : AO) (R : AO) : ASt := mkSt [(0, O), (1, V), (2, M), (3, R), (4, .cells [.int .u64 x.now, .int .u64 x.bef, .int .u64 x.o0, .int .u64 x.o1] true), (5, .cells [.int .u64 y.now, .int .u64 y.bef, .int .u64 y.o0, .int .u64 y.o1] true)] 526
noncomputable def vcT6_s3 (x : Ln) (y : Ln) (O : AO) (V : AO) (M : AO) (R : AO) : ASt := mkSt [(0, O), (1, V), (2, M), (3, R), (4, .cells [.int .u64 x.now, .int .u64 x.bef, .int .u64 x.o0, .int .u64 x.o1] true), (5, .cells [.int .u64 y.now, .int .u64 y.bef, .int .u64 y.o0, .int .u64 y.o1] true)] 1036
noncomputable def vcT6_s4 (x : Ln) (y : Ln) (O : AO) (V : AO) (M : AO) (R : AO) : ASt := mkSt [(0, O), (1, V), (2, M), (3, R), (4, .cells [.int .u64 x.now, .int .u64 x.bef, .int .u64 x.o0, .int .u64 x.o1] true), (5, .cells [.int .u64 y.now, .int .u64 y.bef, .int .u64 y.o0, .int .u64 y.o1] true)] 1546
noncomputable def vcT6_s5 (x : Ln) (y : Ln) (O : AO) (V : AO) (M : AO) (R : AO) : ASt := mkSt [(0, O), (1, V), (2, M), (3, R), (4, .cells [.int .u64 x.now, .int .u64 x.bef, .int .u64 x.o0, .int .u64 x.o1] true), (5, .cells [.int .u64 y.now, .int .u64 y.bef, .int .u64 y.o0, .int .u64 y.o1] true), (1546, .cells [.int .u64 x.now, .int .u64 x.bef, .int .u64 x.o0, .int .u64 x.o1] true)] 1547
noncomputable def vcT6_s6 (x : Ln) (y : Ln) (O : AO) (V : AO) (M : AO) (R : AO) : ASt := mkSt [(0, O), (1, V), (2, M), (3, R), (4, .cells [.int .u64 x.now, .int .u64 x.bef, .int .u64 x.o0, .int .u64 x.o1] true), (5, .cells [.int .u64 y.now, .int .u64 y.bef, .int .u64 y.o0, .int .u64 y.o1] true), (1546, .cells [.int .u64 x.now, .int .u64 x.bef, .int .u64 x.o0, .int .u64 x.o1] true), (1547, .cells [.int .u64 x.now, .int .u64 x.bef, .int .u64 x.o0, .int .u64 x.o1] true)] 1548
theorem vcT6 (q : CallT) (x : Ln) (y : Ln) (O : AO) (V : AO) (M : AO) (R : AO) (v : Nat) (w : Nat) (Q : Exit × Option AV → Prop) :
  ((Ax.M EL (drawA EL) (smG q) 58).call 8 [.ptr (some (1, 0)), .agg [.int .u64 x.now, .int .u64 x.bef, .int .u64 x.o0, .int .u64 x.o1], .agg [.int .u64 x.now, .int .u64 x.bef, .int .u64 x.o0, .int .u64 x.o1]] (vcT6_s0 x y O V M R) = some (.int .i64 (.ofNat 4), vcT6_s1 x y O V M R) ∧ (Ax.M EL (drawA EL) (smG q) 56).call 8 [.ptr (some (1, 0)), .agg [.int .u64 x.now, .int .u64 x.bef, .int .u64 x.o0, .int .u64 x.o1], .agg [.int .u64 y.now, .int .u64 y.bef, .int .u64 y.o0, .int .u64 y.o1]] (vcT6_s2 x y O V M R) = some (.int .i64 (.ofNat v), vcT6_s3 x y O V M R) ∧ (Ax.M EL (drawA EL) (smG q) 56).call 8 [.ptr (some (1, 0)), .agg [.int .u64 y.now, .int .u64 y.bef, .int .u64 y.o0, .int .u64 y.o1], .agg [.int .u64 x.now, .int .u64 x.bef, .int .u64 x.o0, .int .u64 x.o1]] (vcT6_s3 x y O V M R) = some (.int .i64 (.ofNat w), vcT6_s4 x y O V M R) ∧ (Ax.M EL (drawA EL) (smG q) 56).call 9 [.int .i64 (.ofNat w)] (vcT6_s4 x y O V M R) = some (.int .i64 (.ofNat v), vcT6_s4 x y O V M R) ∧ still (vcT6_s4 x y O V M R) (aBin EL .neq 34 (.tmp 36) (.tmp 41) (.int .i64 (.ofNat v)) (.int .i64 (.ofNat v))) = some (.bool false, vcT6_s4 x y O V M R) ∧ holdsO [(some (.agg [.int .u64 y.now, .int .u64 y.bef, .int .u64 y.o0, .int .u64 y.o1]), .agg [.int .u64 y.now, .int .u64 y.bef, .int .u64 y.o0, .int .u64 y.o1]), (some (.agg [.int .u64 x.now, .int .u64 x.bef, .int .u64 x.o0, .int .u64 x.o1]), .agg [.int .u64 x.now, .int .u64 x.bef, .int .u64 x.o0, .int .u64 x.o1])] ∧ still (vcT6_s5 x y O V M R) (aBin EL .eql 22 (.tmp 4) (.const (.int .u64 0)) (.int .u64 x.now) (.int .u64 (.ofNat 0))) = some (.bool false, vcT6_s5 x y O V M R) ∧ still (vcT6_s6 x y O V M R) (aBin EL .eql 22 (.tmp 4) (.const (.int .u64 0)) (.int .u64 x.now) (.int .u64 (.ofNat 0))) = some (.bool false, vcT6_s6 x y O V M R) ∧ (Ax.M EL (drawA EL) (smG q) 56).call 5 [] (vcT6_s6 x y O V M R) = some (.bool true, vcT6_s6 x y O V M R) ∧ Q (.ret, some (.bool true))) =
  (tT6 q x y O V M R v w).allY (fun r => Q (r.1, ans (leaveA EL Tryd.f3 r.2.1 r.2.2))) (.v (.int .i64 (.ofNat 4), vcT6_s1 x y O V M R) (.v (.int .i64 (.ofNat v), vcT6_s3 x y O V M R) (.v (.int .i64 (.ofNat w), vcT6_s4 x y O V M R) (.v (.int .i64 (.ofNat v), vcT6_s4 x y O V M R) (.v (.bool false, vcT6_s4 x y O V M R) (.v (.bool false, vcT6_s5 x y O V M R) (.v (.bool false, vcT6_s6 x y O V M R) (.v (.bool true, vcT6_s6 x y O V M R) .nil)))))))) := by kernel_rfl
end Go.Proofs.YtidmijpfoodkoaaDoor.gho
end

section
open Go Go.Ax Go.Proofs
namespace Go.Proofs.YtidmijpfoodkoaaDoor.gho
set_option linter.unusedVariables false
theorem ELok : Env.Ok Tryd.prog EL := envEx_ok (xs := []) ⟨⟨Tryd.func3, Tryd.call3⟩, ⟨Tryd.func4, Tryd.call4⟩, ⟨Tryd.func7, Tryd.call7⟩, ⟨Tryd.func10, Tryd.call10⟩, trivial⟩ trivial (by kernel_rfl)
noncomputable def ET : Env := envEx Tryd.prog [0, 3, 4, 34, 51] [(9, Tryd.f9)] []
theorem ETok : Env.Ok Tryd.prog ET := envEx_ok (xs := []) ⟨⟨Tryd.func9, Tryd.call9⟩, trivial⟩ trivial (by kernel_rfl)
theorem turn_mem {v : Nat} (h : v < 9) : AtMem Tryd.prog 9 [nI v] (mkSt [] 0) (nI (turnN v)) := by
  match v, h with
  | 0, _ => exact AtMem.of_run ETok noSum_ok (n := 60) (by kernel_rfl)
  | 1, _ => exact AtMem.of_run ETok noSum_ok (n := 60) (by kernel_rfl)
  | 2, _ => exact AtMem.of_run ETok noSum_ok (n := 60) (by kernel_rfl)
  | 3, _ => exact AtMem.of_run ETok noSum_ok (n := 60) (by kernel_rfl)
  | 4, _ => exact AtMem.of_run ETok noSum_ok (n := 60) (by kernel_rfl)
  | 5, _ => exact AtMem.of_run ETok noSum_ok (n := 60) (by kernel_rfl)
  | 6, _ => exact AtMem.of_run ETok noSum_ok (n := 60) (by kernel_rfl)
  | 7, _ => exact AtMem.of_run ETok noSum_ok (n := 60) (by kernel_rfl)
  | 8, _ => exact AtMem.of_run ETok noSum_ok (n := 60) (by kernel_rfl)
theorem turn_at {v : Nat} {S : ASt} (h : v < 9) : Call1 Tryd.prog 9 [nI v] S (nI (turnN v), S) :=
  Call1.read (turn_mem h) (by simp [refsV, nI]) (l := []) rfl (fun j x hj => by
      have : (mkSt [] 0).h.get j = Option.none := T.get_e j
      rw [this] at hj; cases hj) (fun j q hq => by simp at hq) fun ι args' hv => ⟨hv.size, fun i y y' hy hy' => by
      match i, hy with
      | 0, hy => simp at hy; subst hy; exact (hv.at_ 0 _ y' rfl hy').noRef (by simp [refsV, nI])
      | i + 1, hy => simp at hy⟩
end Go.Proofs.YtidmijpfoodkoaaDoor.gho
end

section
open Go Go.Ax Go.Proofs
namespace Go.Proofs.YtidmijpfoodkoaaDoor.gho
set_option linter.unusedVariables false
section
variable {t : List (Int × Int)} {g a b z : Int} {S : ASt} {O : AO} {A : AV} {x y : Ln} {bs : List Br} {k n m : Nat} {w : Bool}
def QT (q : Exit × AFr × ASt) : Prop := (q.1 = .normal ∨ q.1 = .ret) ∧ ans (leaveA EL Tryd.f3 q.2.1 q.2.2) = some (.bool true)
theorem preRet {kb : Nat} {sum : CallT} (hs : CallsOK Tryd.prog sum) {k : Nat} {cd : Code} {n : Nat} {fls : List (Nat × Fl)} {rf fl : Fl} {fr : AFr} {st : ASt} {y : An} (hc : hasC k cd = true)
    (h : ((TM EL sum fls rf n).ex fl none (preC k cd) fr st).allY (fun r => (r.1, ans (leaveA EL Tryd.f3 r.2.1 r.2.2)) = (.ret, some (.bool true))) y) : Trip Tryd.prog kb none cd fr st QT := by
  obtain ⟨r, h1, h2⟩ := TM_ex (Tr.allY_all _ y h)
  have h3 : r.1 = .ret := congrArg Prod.fst h2
  exact Trip.preX ELok hs k cd n fr st r hc h1 (fun hr => by rw [h3] at hr; cases hr) (fun hr => ⟨.inr h3, congrArg Prod.snd h2⟩)
theorem ln_self2 {x : Ln} : avEq (.agg [.int .u64 x.now, .int .u64 x.bef, .int .u64 x.o0, .int .u64 x.o1]) (.agg [.int .u64 x.now, .int .u64 x.bef, .int .u64 x.o0, .int .u64 x.o1]) = true := by simp [avEq, avsEq]
theorem eqL_b {t ty : Nat} {x : Operand} {kd : IntKind} {p : Int} {w : Bool} (h : ∀ z : Int, aBin EL .eql ty (.tmp t) x (.int kd z) (.int kd (.ofNat 0)) = some (.bool (eqF z (.ofNat 0)))) (hw : eqF p (.ofNat 0) = w) : still S (aBin EL .eql ty (.tmp t) x (.int kd p) (.int kd (.ofNat 0))) = some (.bool w, S) := by
  rw [h, hw]; rfl
theorem neL (z : Int) : still S (aBin EL .neq 34 (.tmp 36) (.tmp 41) (.int .i64 z) (.int .i64 z)) = some (.bool false, S) := by
  have h : aBin EL .neq 34 (.tmp 36) (.tmp 41) (.int .i64 z) (.int .i64 z) = some (.bool (!eqF z z)) := by kernel_rfl
  rw [h, eqF_self]; rfl
theorem saysL {s s' : ASt} {x y : Ln} {v : Nat} (hT : TreeOk t) (htl : t.length < 1000) (hS : TreeB s t) (hv : saysV t x y = v) (hs : outS (gA 1 3 s.next) [(0, tA (vT 3 t)), (1, mO t), (2, rT t)] s (s.next + 510) = s') : Call1 Tryd.prog 8 [.ptr (some (1, 0)), x.av, y.av] s (.int .i64 (.ofNat v), s') := by
  have h := saysB_at (x := x) (y := y) hS hT (by have := up_len (t := t) (g := x.now); omega) (by have := up_len (t := t) (g := y.now); omega)
  rw [hv, hs] at h
  exact h
end
end Go.Proofs.YtidmijpfoodkoaaDoor.gho
end

section
open Go Go.Ax Go.Proofs
namespace Go.Proofs.YtidmijpfoodkoaaDoor.gho
set_option linter.unusedVariables false
section
variable {t : List (Int × Int)} {g : Int} {S : ASt} {O : AO} {A : AV} {x y : Ln} {bs : List Br}
theorem stepT (hT : TreeOk t) (htl : t.length < 1000) : Trip Tryd.prog 1 none (dropC 3 c3) (fT 0) (ST O (tA (vT 3 t)) (mO t) (rT t) x y) QT := by
  have ht : turnN (saysV t y x) = saysV t x y := (says_turn hT).symm
  cases ha : eqF x.now (.ofNat 0) with
  | true =>
    have hturn : Call1 Tryd.prog 9 [nI (saysV t y x)] (vcT5_s4 x y O (tA (vT 3 t)) (mO t) (rT t)) (nI (saysV t x y), vcT5_s4 x y O (tA (vT 3 t)) (mO t) (rT t)) := by rw [← ht]; exact turn_at saysV_lt
    have hself : saysV t x x = 1 := by rw [says_self, ha]; rfl
    exact (Trip.runY ELok (sum := smG (tabC [_, _, _, _, _])) (onlyC_ok (tabC_ok fun w he => by
      simp only [List.mem_cons, List.not_mem_nil, or_false] at he
      rcases he with rfl | rfl | rfl | rfl | rfl
      · exact saysL (s := vcT5_s0 x y O (tA (vT 3 t)) (mO t) (rT t)) hT htl ⟨by kernel_rfl, by kernel_rfl, by kernel_rfl, Nat.le_of_ble_eq_true (by kernel_rfl)⟩ hself (by kernel_rfl : _ = vcT5_s1 x y O (tA (vT 3 t)) (mO t) (rT t))
      · exact saysL (s := vcT5_s2 x y O (tA (vT 3 t)) (mO t) (rT t)) hT htl ⟨by kernel_rfl, by kernel_rfl, by kernel_rfl, Nat.le_of_ble_eq_true (by kernel_rfl)⟩ rfl (by kernel_rfl : _ = vcT5_s3 x y O (tA (vT 3 t)) (mO t) (rT t))
      · exact saysL (s := vcT5_s3 x y O (tA (vT 3 t)) (mO t) (rT t)) hT htl ⟨by kernel_rfl, by kernel_rfl, by kernel_rfl, Nat.le_of_ble_eq_true (by kernel_rfl)⟩ rfl (by kernel_rfl : _ = vcT5_s4 x y O (tA (vT 3 t)) (mO t) (rT t))
      · exact hturn
      · exact (known_at : Call1 Tryd.prog 5 [] (vcT5_s5 x y O (tA (vT 3 t)) (mO t) (rT t)) _))) (Eq.mp (vcT5 (tabC [_, _, _, _, _]) x y O (tA (vT 3 t)) (mO t) (rT t) (saysV t x y) (saysV t y x) (fun q => q = (.ret, some (.bool true))))
      ⟨call_at (onlyC_at rfl (tabC_hd ..)), call_at (onlyC_at rfl ((tabC_tln rfl).trans (tabC_hd ..))), call_at (onlyC_at rfl ((tabC_tln rfl).trans ((tabC_tln rfl).trans (tabC_hd ..)))), call_at (onlyC_at rfl ((tabC_tlf rfl).trans ((tabC_tlf rfl).trans ((tabC_tlf rfl).trans (tabC_hd ..))))), neL _, ⟨⟨rfl, ln_self2⟩, ⟨rfl, ln_self2⟩, trivial⟩, eqL_b (fun z => by kernel_rfl) ha, call_at (onlyC_at rfl ((tabC_tlf rfl).trans ((tabC_tlf rfl).trans ((tabC_tlf rfl).trans ((tabC_tlf rfl).trans (tabC_hd ..)))))), rfl⟩)).mono fun q hq => ⟨.inr (congrArg Prod.fst hq), congrArg Prod.snd hq⟩
  | false =>
    have hturn : Call1 Tryd.prog 9 [nI (saysV t y x)] (vcT6_s4 x y O (tA (vT 3 t)) (mO t) (rT t)) (nI (saysV t x y), vcT6_s4 x y O (tA (vT 3 t)) (mO t) (rT t)) := by rw [← ht]; exact turn_at saysV_lt
    have hself : saysV t x x = 4 := by rw [says_self, ha]; rfl
    exact (Trip.runY ELok (sum := smG (tabC [_, _, _, _, _])) (onlyC_ok (tabC_ok fun w he => by
      simp only [List.mem_cons, List.not_mem_nil, or_false] at he
      rcases he with rfl | rfl | rfl | rfl | rfl
      · exact saysL (s := vcT6_s0 x y O (tA (vT 3 t)) (mO t) (rT t)) hT htl ⟨by kernel_rfl, by kernel_rfl, by kernel_rfl, Nat.le_of_ble_eq_true (by kernel_rfl)⟩ hself (by kernel_rfl : _ = vcT6_s1 x y O (tA (vT 3 t)) (mO t) (rT t))
      · exact saysL (s := vcT6_s2 x y O (tA (vT 3 t)) (mO t) (rT t)) hT htl ⟨by kernel_rfl, by kernel_rfl, by kernel_rfl, Nat.le_of_ble_eq_true (by kernel_rfl)⟩ rfl (by kernel_rfl : _ = vcT6_s3 x y O (tA (vT 3 t)) (mO t) (rT t))
      · exact saysL (s := vcT6_s3 x y O (tA (vT 3 t)) (mO t) (rT t)) hT htl ⟨by kernel_rfl, by kernel_rfl, by kernel_rfl, Nat.le_of_ble_eq_true (by kernel_rfl)⟩ rfl (by kernel_rfl : _ = vcT6_s4 x y O (tA (vT 3 t)) (mO t) (rT t))
      · exact hturn
      · exact (known_at : Call1 Tryd.prog 5 [] (vcT6_s6 x y O (tA (vT 3 t)) (mO t) (rT t)) _))) (Eq.mp (vcT6 (tabC [_, _, _, _, _]) x y O (tA (vT 3 t)) (mO t) (rT t) (saysV t x y) (saysV t y x) (fun q => q = (.ret, some (.bool true))))
      ⟨call_at (onlyC_at rfl (tabC_hd ..)), call_at (onlyC_at rfl ((tabC_tln rfl).trans (tabC_hd ..))), call_at (onlyC_at rfl ((tabC_tln rfl).trans ((tabC_tln rfl).trans (tabC_hd ..)))), call_at (onlyC_at rfl ((tabC_tlf rfl).trans ((tabC_tlf rfl).trans ((tabC_tlf rfl).trans (tabC_hd ..))))), neL _, ⟨⟨rfl, ln_self2⟩, ⟨rfl, ln_self2⟩, trivial⟩, eqL_b (fun z => by kernel_rfl) ha, eqL_b (fun z => by kernel_rfl) ha, call_at (onlyC_at rfl ((tabC_tlf rfl).trans ((tabC_tlf rfl).trans ((tabC_tlf rfl).trans ((tabC_tlf rfl).trans (tabC_hd ..)))))), rfl⟩)).mono fun q hq => ⟨.inr (congrArg Prod.fst hq), congrArg Prod.snd hq⟩
end
end Go.Proofs.YtidmijpfoodkoaaDoor.gho
end

section
open Go Go.Ax Go.Proofs
namespace Go.Proofs.YtidmijpfoodkoaaDoor.gho
set_option linter.unusedVariables false
section
variable {t : List (Int × Int)} {g : Int} {S : ASt} {O : AO} {A : AV} {x y : Ln} {bs : List Br}
theorem law (I0 : SlArg EO 23 2 0 bs.length A O (bs.flatMap encB)) (I : SlArg EL 23 2 0 bs.length A O (bs.flatMap encB)) (hO : CameF O A) (hA : KeptV 1 A) : Trip Tryd.prog 1 none c3 (F3 g A x y) (S0 O) QT := by
  have hgt : ∀ {S : ASt} {w : Bool}, decide (60 < bs.length) = w → still S (aBin EL .gtr 3 (.tmp 4) (.const (.int .i64 60)) (.int .i64 (.ofNat bs.length)) (.int .i64 (.ofNat 60))) = some (.bool w, S) := fun {S w} hw => by
    have h : ∀ w : Int, aBin EL .gtr 3 (.tmp 4) (.const (.int .i64 60)) (.int .i64 w) (.int .i64 (.ofNat 60)) = some (.bool (ltF (.ofNat 60) w)) := fun w => by kernel_rfl
    rw [h, ltF_nn, hw]; rfl
  by_cases hl : 60 < bs.length
  · exact preRet (sum := smG (tabC [_])) (onlyC_ok (tabC_ok fun w he => by
      simp only [List.mem_cons, List.not_mem_nil, or_false] at he
      subst he
      exact (known_at : Call1 Tryd.prog 5 [] (vcT1_s0 x y O) _))) (k := 3) (by kernel_rfl) (Eq.mp (vcT1 (tabC [_]) g A x y O bs.length (fun q => q = (.ret, some (.bool true)))) ⟨I.len _, hgt (decide_eq_true hl), call_at (onlyC_at rfl (tabC_hd ..)), rfl⟩)
  · have hd : decide (60 < bs.length) = false := decide_eq_false hl
    cases ho : ofR g bs with
    | no e =>
      rcases ofR_err ho with rfl | rfl
      · exact preRet (sum := smG (tabC [_, _])) (onlyC_ok (tabC_ok fun w he => by
          simp only [List.mem_cons, List.not_mem_nil, or_false] at he
          rcases he with rfl | rfl
          · exact Call1.mem (by kernel_rfl : _ = vcT2_s1 x y O) (of_noS (S := vcT2_s0 x y O) (by kernel_rfl) (Nat.le_of_ble_eq_true (by kernel_rfl)) I0 hO hA (by omega) ho)
          · exact (known_at : Call1 Tryd.prog 5 [] (vcT2_s1 x y O) _))) (k := 3) (by kernel_rfl) (Eq.mp (vcT2 (tabC [_, _]) g A x y O bs.length (fun q => q = (.ret, some (.bool true)))) ⟨I.len _, hgt hd, call_at (onlyC_at rfl (tabC_hd ..)), call_at (onlyC_at rfl ((tabC_tlf rfl).trans (tabC_hd ..))), rfl⟩)
      · exact preRet (sum := smG (tabC [_, _])) (onlyC_ok (tabC_ok fun w he => by
          simp only [List.mem_cons, List.not_mem_nil, or_false] at he
          rcases he with rfl | rfl
          · exact Call1.mem (by kernel_rfl : _ = vcT3_s1 x y O) (of_noS (S := vcT3_s0 x y O) (by kernel_rfl) (Nat.le_of_ble_eq_true (by kernel_rfl)) I0 hO hA (by omega) ho)
          · exact (known_at : Call1 Tryd.prog 5 [] (vcT3_s1 x y O) _))) (k := 3) (by kernel_rfl) (Eq.mp (vcT3 (tabC [_, _]) g A x y O bs.length (fun q => q = (.ret, some (.bool true)))) ⟨I.len _, hgt hd, call_at (onlyC_at rfl (tabC_hd ..)), call_at (onlyC_at rfl ((tabC_tlf rfl).trans (tabC_hd ..))), rfl⟩)
    | ok t =>
      obtain ⟨hT, htl⟩ := ofR_ok ho
      refine Trip.preY ELok (sum := smG (tabC [_])) (onlyC_ok (tabC_ok fun w he => by
        simp only [List.mem_cons, List.not_mem_nil, or_false] at he
        subst he
        exact Call1.mem (by kernel_rfl : _ = vcT4_s1 x y O (vT 6 t) (mO t) (rT t)) (of_okS (S := vcT4_s0 x y O) (by kernel_rfl) (Nat.le_of_ble_eq_true (by kernel_rfl)) I0 hO hA (by omega) ho))) (k := 3) (kf := [6, 7, 8, 9]) (ko := KO130) (by kernel_rfl) (Q1 := fun q => q = (.normal, xFr [(6, .ptr (some (1, 0))), (7, .ptr (some (2, 0))), (8, .bool false), (9, .ptr (some (4, 0)))] 61, vcT4_s1 x y O (vT 6 t) (mO t) (rT t)))
        (Eq.mp (vcT4 (tabC [_]) g A x y O bs.length (vT 6 t) (mO t) (rT t) (fun q => q = (.normal, xFr [(6, .ptr (some (1, 0))), (7, .ptr (some (2, 0))), (8, .bool false), (9, .ptr (some (4, 0)))] 61, vcT4_s1 x y O (vT 6 t) (mO t) (rT t)))) ⟨I.len _, hgt hd, call_at (onlyC_at rfl (tabC_hd ..)), rfl⟩) (fun F S hq => ?_) (fun r hne hq => absurd (congrArg Prod.fst hq) hne)
      cases hq
      refine Trip.less (fr' := fT 0) (st' := ST O (tA (vT 3 t)) (mO t) (rT t) x y) ?_ (stepT hT (by omega))
      exact Wk.heldX (kb := 1) [0, 4, 5, 6, 1, 2] (by kernel_rfl) (by kernel_rfl) [6, 7, 8, 9] (by kernel_rfl) (.came hO.came rfl (by kernel_rfl) <| .cons 4 (.cells [.map (some 5), vT 6 t] true) rfl (by kernel_rfl) (.of rfl) <| .cons 5 (mO t) rfl (by kernel_rfl) mO_ren <| .cons 6 (rT t) rfl (by kernel_rfl) (.row gU_refs) <| .cons 1 (bxL x) rfl (by kernel_rfl) (.of rfl) <| .cons 2 (bxL y) rfl (by kernel_rfl) (.of rfl) .nil)
end
end Go.Proofs.YtidmijpfoodkoaaDoor.gho
end

section
open Go Go.Ax Go.Proofs.YtidmijpfoodkoaaDoor
namespace Go.Proofs.YtidmijpfoodkoaaDoor.gho
set_option linter.unusedVariables false
noncomputable section
open Go.ChangeShapes Go.WideShapes Go.ChangeAt Go.RowKit Go.Deep
theorem own : ownKnob Tryd.prog.godebug = none := by kernel_rfl
theorem laidOut : laidOutB Tryd.prog = true := by kernel_rfl
theorem same_below {W W' : World} (h : Below W.heap.size W W') {p : MemPlace} (hp : p.block < W.heap.size) : W.sameAt W' p := by
  cases p with
  | cell b off => exact h.cell (p := ⟨b, off, none⟩) hp
  | map b => exact h.block b hp
theorem spot_none {W : World} {a : Addr} {v : Value} (h : W.cell? (a.add 0) = some v) : a.spot = none := by
  obtain ⟨b, off, spot⟩ := a
  cases spot with
  | none => rfl
  | some s =>
    unfold World.cell? at h
    simp only [Addr.add, if_true] at h
    split at h
    · simp at h
    · cases h
theorem el49 : sliceT EL 23 = some 2 := by kernel_rfl
theorem eo49 : sliceT EO 23 = some 2 := by kernel_rfl
structure BArg (W : World) (l : List Br) (v : Value) (vl : AV) (o : AO) (r : Option (Nat × Nat × List AV)) : Prop where
  at_ : ArgAt EL W 23 2 0 l.length v (l.flatMap encB) vl o r
  sl : SlArg EO 23 2 0 l.length vl o (l.flatMap encB)
  camef : CameF o vl
theorem encB_refs {l : List Br} : ∀ c, c ∈ l.flatMap encB → refsV 0 c := fun c hc => by
  obtain ⟨x, _, hx⟩ := List.mem_flatMap.1 hc
  simp only [encB, List.mem_cons, List.not_mem_nil, or_false] at hx
  rcases hx with rfl | rfl <;> simp [refsV, gU]
theorem arg_births {W : World} {a : Addr} {len cap : Nat} {V0 V1 : Nat → Value} (hl : len ≤ cap) (hi : ∀ i, i < len → W.cell? (a.add (i * 2)) = some (V0 i) ∧ W.cell? (a.add (i * 2 + 1)) = some (V1 i) ∧ (∃ z, V0 i = .int .u64 z) ∧ ∃ z, V1 i = .int .u64 z) :
    ∃ (l : List Br) (vl : AV) (o : AO) (r : Option (Nat × Nat × List AV)), BArg W l (.slice (some a) len cap) vl o r := by
  by_cases h0 : len = 0
  · subst h0
    exact ⟨[], _, _, _, ArgAt.mk_zero el49, SlArg.zero eo49, .inl ⟨rfl, fun ids => rfl⟩⟩
  · have hz : ∃ f : Nat → Br, ∀ i, i < len → V0 i = .int .u64 (f i).1 ∧ V1 i = .int .u64 (f i).2 := by
      refine ⟨fun i => (match V0 i with | .int _ z => z | _ => 0, match V1 i with | .int _ z => z | _ => 0), fun i hlt => ?_⟩
      obtain ⟨_, _, ⟨z, hz⟩, t, ht⟩ := hi i hlt
      simp only [hz, ht, and_self]
    obtain ⟨f, hf⟩ := hz
    have hsp := spot_none (show W.cell? (a.add 0) = some (V0 0) by have := (hi 0 (by omega)).1; rwa [Nat.zero_mul] at this)
    obtain ⟨b, off, spot⟩ := a
    simp only at hsp
    subst hsp
    have hlen : ((List.range len).map f).length = len := by simp
    have hrow : RowAt W b off (((List.range len).map f).flatMap encB) := fun k v hk => by
      have hk2 : k < len * 2 := by
        have := (List.getElem?_eq_some_iff.1 hk).1
        rw [fm_len encB_len, hlen] at this; exact this
      have hk3 : k / 2 < len := by omega
      have hx : ((List.range len).map f)[k / 2]? = some (f (k / 2)) := by simp [hk3]
      obtain ⟨c0, c1, _⟩ := hi (k / 2) hk3
      obtain ⟨f0, f1⟩ := hf (k / 2) hk3
      rcases Nat.mod_two_eq_zero_or_one k with e | e
      · have h2 := fm_get (enc := encB) encB_len hx (r := 0) rfl
        rw [show k / 2 * 2 + 0 = k by omega, hk] at h2
        simp only [Option.some.injEq] at h2
        subst h2
        refine ⟨rfl, _, ?_, fun ι => .int _ _⟩
        rw [← f0, ← c0, add_none]
        congr 2; omega
      · have h2 := fm_get (enc := encB) encB_len hx (r := 1) rfl
        rw [show k / 2 * 2 + 1 = k by omega, hk] at h2
        simp only [Option.some.injEq] at h2
        subst h2
        refine ⟨rfl, _, ?_, fun ι => .int _ _⟩
        rw [← f1, ← c1, add_none]
        congr 2; omega
    have hne : ((List.range len).map f).flatMap encB ≠ [] := by intro e; have := congrArg List.length e; rw [fm_len encB_len, hlen] at this; simp at this; omega
    refine ⟨(List.range len).map f, .slice (some (0, 0)) len (.atl len), .cells (((List.range len).map f).flatMap encB) false, some (b, off, ((List.range len).map f).flatMap encB), ?_, ?_, .inr ⟨_, rfl, encB_refs⟩⟩
    · rw [hlen]
      exact ArgAt.mk_row el49 hne hl hrow
    · rw [hlen]
      exact SlArg.row eo49
def row0 (r : Option (Nat × Nat × List AV)) : Nat → Option (Nat × Nat × List AV)
  | 0 => r
  | _ => none
theorem walk {W : World} (hgl : GlobOK W) {v0 : Value} {l : List Br} {u0 : AV} {o0 : AO} {r0 : Option (Nat × Nat × List AV)} {g : Int} {x y : Ln} (A0 : BArg W l v0 u0 o0 r0) :
    Calls Tryd.prog 3 #[.int .u64 g, v0, .agg #[.int .u64 x.now, .int .u64 x.bef, .int .u64 x.o0, .int .u64 x.o1], .agg #[.int .u64 y.now, .int .u64 y.bef, .int .u64 y.o0, .int .u64 y.o1]] W fun e w' => e = .returned (.bool true) ∧ Below W.heap.size W w' := by
  have hrow : ∀ i r, row0 r0 i = some r → r.2.2 ≠ [] ∧ RowAt W r.1 r.2.1 r.2.2 := fun i r h => by
    match i, h with
    | 0, h => exact A0.at_.row r h
  have hsr := rowsO_ok hgl (n := 1) (rows := row0 r0) hrow (st := S0 o0) rfl (fun i a hi => by
    obtain ⟨rfl, rfl⟩ := get1' hi
    exact ⟨by omega, A0.at_.obj⟩)
  have w0 : VR (rowsRen W 1 (row0 r0)) u0 v0 := A0.at_.vr _ fun q hq => rowsRen_at (i := 0) (by omega) hq (A0.at_.row q hq).1 (A0.at_.row q hq).2
  have hln : ∀ (x : Ln), VR (rowsRen W 1 (row0 r0)) x.av (.agg #[.int .u64 x.now, .int .u64 x.bef, .int .u64 x.o0, .int .u64 x.o1]) := fun x => by
    refine .agg _ _ rfl (fun v hv => by simp only [List.mem_cons, List.not_mem_nil, or_false] at hv; rcases hv with rfl | rfl | rfl | rfl <;> rfl) (fun k v v' hk hk' => ?_)
    match k with
    | 0 => simp at hk hk'; subst hk; subst hk'; exact .int _ _
    | 1 => simp at hk hk'; subst hk; subst hk'; exact .int _ _
    | 2 => simp at hk hk'; subst hk; subst hk'; exact .int _ _
    | 3 => simp at hk hk'; subst hk; subst hk'; exact .int _ _
    | k + 4 => simp at hk
  have hv : VRs (rowsRen W 1 (row0 r0)) [gU g, u0, x.av, y.av] #[.int .u64 g, v0, .agg #[.int .u64 x.now, .int .u64 x.bef, .int .u64 x.o0, .int .u64 x.o1], .agg #[.int .u64 y.now, .int .u64 y.bef, .int .u64 y.o0, .int .u64 y.o1]] := ⟨rfl, fun i z z' hx hx' => by
    match i with
    | 0 => simp at hx hx'; subst hx; subst hx'; exact .int _ _
    | 1 => simp at hx hx'; subst hx; subst hx'; exact w0
    | 2 => simp at hx hx'; subst hx; subst hx'; exact hln x
    | 3 => simp at hx hx'; subst hx; subst hx'; exact hln y
    | i + 4 => simp at hx⟩
  have hfr : ({ m := putArgs [gU g, u0, x.av, y.av] 0 .e, n := Tryd.f3.ntmps, defs := [] } : AFr) = F3 g u0 x y := by kernel_rfl
  refine law_calls ELok (fn := Tryd.f3) (by kernel_rfl) (c := c3) (by kernel_rfl) (by kernel_rfl) (fun _ h => h) (fun k hk => .inr hk) hsr hv ?_
  rw [hfr]
  exact law A0.sl A0.at_.sl A0.camef (A0.at_.kept 1 (by omega))
section
variable {H : Type} {enc : TypeId × Value → H} {P : Program} {w : World} {base : Nat} {spare : Nat → Bool} {held : Bool} {fuel : Nat} {t : TypeId} {cs : List Value} {x : DataW H × List MemPlace}
theorem fieldOf {fs : Array Field} (ht : P.underlying t = some (.struct fs)) (h : DataW.trod enc P w base spare held fuel t cs = some x) {i : Nat} {f : Field} (hi : fs[i]? = some f) :
    ∃ n y, DataW.trod enc P w base spare held n f.type ((cs.drop f.offset).take (P.cellsOf f.type)) = some y := by
  obtain ⟨xs, n, _, _, _, hl, hf⟩ := DataW.trod_struct ht h
  have h1 := (Array.getElem?_eq_some_iff.1 hi).1
  exact ⟨n, xs[i]'(by omega), by rw [hf i f hi]; simp⟩
theorem one_int {k : IntKind} {o : Nat} (ht : P.underlying t = some (.int k)) (h : DataW.trod enc P w base spare held fuel t ((cs.drop o).take 1) = some x) : ∃ z, cs[o]? = some (.int k z) := by
  obtain ⟨z, e, _, hw⟩ := DataW.trod_int ht h
  refine ⟨z, ?_⟩
  have : ((cs.drop o).take 1)[0]? = some (.int k z) := by rw [e]; rfl
  simpa using this
end
def Ln.vals (x : Ln) : List Value := [.int .u64 x.now, .int .u64 x.bef, .int .u64 x.o0, .int .u64 x.o1]
theorem line_of {H : Type} {enc : TypeId × Value → H} {W : World} {base fuel : Nat} {spare : Nat → Bool} {held : Bool} {cs : List Value} {x : DataW H × List MemPlace} (h : DataW.trod enc Tryd.prog W base spare held fuel 26 cs = some x) : ∃ q : Ln, cs = q.vals := by
  have hlen : cs.length = 4 := by
    obtain ⟨_, _, _, _, hl, _⟩ := DataW.trod_struct Tryd.underlying26 h
    rw [hl]; kernel_rfl
  have c22 : Tryd.prog.cellsOf 22 = 1 := by kernel_rfl
  have c24 : Tryd.prog.cellsOf 24 = 2 := by kernel_rfl
  obtain ⟨n0, g0, k0⟩ := fieldOf Tryd.underlying26 h (i := 0) rfl
  obtain ⟨n1, g1, k1⟩ := fieldOf Tryd.underlying26 h (i := 1) rfl
  obtain ⟨n2, g2, k2⟩ := fieldOf Tryd.underlying26 h (i := 2) rfl
  replace k0 : DataW.trod enc Tryd.prog W base spare held n0 22 ((cs.drop 0).take (Tryd.prog.cellsOf 22)) = some g0 := k0
  replace k1 : DataW.trod enc Tryd.prog W base spare held n1 22 ((cs.drop 1).take (Tryd.prog.cellsOf 22)) = some g1 := k1
  replace k2 : DataW.trod enc Tryd.prog W base spare held n2 24 ((cs.drop 2).take (Tryd.prog.cellsOf 24)) = some g2 := k2
  rw [c22] at k0 k1
  rw [c24] at k2
  obtain ⟨a, e0⟩ := one_int Tryd.underlying22 k0
  obtain ⟨b, e1⟩ := one_int Tryd.underlying22 k1
  obtain ⟨xs, m, _, ex, hcl, hl, hel⟩ := DataW.trod_array Tryd.underlying24 k2
  have q0 := hel 0 (by decide)
  have q1 := hel 1 (by decide)
  rw [c22, List.getElem?_eq_getElem (by omega)] at q0 q1
  obtain ⟨c, e2⟩ := one_int Tryd.underlying22 q0
  obtain ⟨d, e3⟩ := one_int Tryd.underlying22 q1
  refine ⟨⟨a, b, c, d⟩, ?_⟩
  match cs, hlen with
  | [x0, x1, x2, x3], _ =>
    simp at e0 e1 e2 e3
    rw [e0, e1, e2, e3]; rfl
end
end Go.Proofs.YtidmijpfoodkoaaDoor.gho
end

section
open Go Go.Ax Go.Proofs.YtidmijpfoodkoaaDoor
namespace Go.Proofs.YtidmijpfoodkoaaDoor.gho
set_option linter.unusedVariables false
noncomputable section
open Go.ChangeShapes Go.WideShapes Go.ChangeAt Go.RowKit Go.Deep
def laidAll : List (String × DataW Unit) := [("gemel/uuid.turned", Rows.laid_gemel_uuid_turned)]
theorem door_met (os : Os) (args : Array Value) : laidMetH Tryd.prog laidAll ((World.doorLaid Tryd.prog 400 os).forCall (fun _ _ => 0) ⟨#[], args, []⟩).memory :=
  laidMetH_of_parts3 (fuel := 8) (laidMet_of_run' 8 (by kernel_rfl) (by kernel_rfl)) (by kernel_rfl) (by kernel_rfl)
def wit : Array Value := #[.int .u64 0, .slice none 0 0, .agg #[.int .u64 0, .int .u64 0, .int .u64 0, .int .u64 0], .agg #[.int .u64 0, .int .u64 0, .int .u64 0, .int .u64 0]]
set_option maxRecDepth 100000 in
theorem lifted (os : Os) (started : os.Started) (H : Type) (enc : TypeId × Value → H) :
    ReturnsInHanded {} Tryd.checked os 3 .any (fun w args => (Rows.ghostTurnsSpec.pre enc Tryd.prog Tryd.f3 [] false w args ∧ laidMetH Tryd.prog laidAll w) ∧ sizedMet enc Tryd.prog Tryd.f3 (OpenSpec.ofChange Rows.ghostTurnsSpec) false w args)
      (Rows.ghostTurnsSpec.post enc Tryd.prog Tryd.f3 false true false false) := by
  refine returnsInHanded_of_change_and (C := Tryd.checked) (X := fun w _ => laidMetH Tryd.prog laidAll w) (fun _ _ _ hh h => h.of_heap hh) own started (by kernel_rfl) Tryd.func3
    (ChangeSpec.witness_shaped (enc := enc) (C := Tryd.checked) (os := os) (X := fun w _ => laidMetH Tryd.prog laidAll w) false (World.doorLaid Tryd.prog 400 os) wit 8 rfl (World.shaped_of_RefB (by kernel_rfl) (by kernel_rfl)) (by kernel_rfl) (by kernel_rfl) (by kernel_rfl) (door_met os _)) ?_
  intro W base args ds gs before hval0 hW _ _ hL _
  have hval : ∀ (j : Nat) t v, Tryd.f3.params[j]? = some t → args[j]? = some v → Value.okWide Tryd.prog W .any base t v := hval0
  have hW' := hW
  obtain ⟨p, q, hA0, hV, rfl, hfz, hnd⟩ := hW
  have hA : DataW.TrodAll enc Tryd.prog W 0 (fun _ => true) true Tryd.f3.params.toList args.toList ds p := hA0
  rw [Tryd.params3] at hA hval
  obtain ⟨v0, v1, v2, v3, d0, d1, d2, d3, p0, p1, p2, p3, rfl, rfl, rfl, h0, h1, h2, h3⟩ := trodAll_four hA
  obtain ⟨rfl, rfl⟩ := trodVars_none hV
  obtain ⟨g, rfl, rfl, rfl, wg⟩ := open_int Tryd.underlying22 (hval 0 22 v0 rfl rfl) h0
  obtain ⟨a0, len, cap, rfl⟩ := okWide_slice Tryd.underlying23 (hval 1 23 v1 rfl rfl)
  obtain ⟨xs, rfl, hsx⟩ := okWide_struct Tryd.underlying26 (hval 2 26 v2 rfl rfl)
  obtain ⟨ys, rfl, hsy⟩ := okWide_struct Tryd.underlying26 (hval 3 26 v3 rfl rfl)
  have h1k := h1
  have h2k := h2
  have h3k := h3
  obtain ⟨fu1, hf1⟩ := h1
  obtain ⟨fu2, hf2⟩ := h2
  obtain ⟨fu3, hf3⟩ := h3
  clear hA0 hval0
  simp only [List.append_nil, List.nil_append] at hW'
  have hlt1 : ∀ x ∈ p1, x.block < W.heap.size := fun x hx => by simpa using hW'.lt x (by simp only [List.mem_append]; exact .inl (.inl hx))
  have hlt2 : ∀ x ∈ p2, x.block < W.heap.size := fun x hx => by simpa using hW'.lt x (by simp only [List.mem_append]; exact .inl (.inr hx))
  have hlt3 : ∀ x ∈ p3, x.block < W.heap.size := fun x hx => by simpa using hW'.lt x (by simp only [List.mem_append]; exact .inr hx)
  have g0 : ∃ (l : List Br) (vl : AV) (o : AO) (r : Option (Nat × Nat × List AV)), BArg W l (.slice a0 len cap) vl o r := by
    rcases open_slice_pairs Tryd.underlying23 Tryd.underlying40 (by kernel_rfl) rfl rfl (by kernel_rfl) (by kernel_rfl) hf1 with ⟨hcs, _⟩ | ⟨a, len', cap', m, n, V0, V1, D0, D1, P0, P1, hcs, _, hl, _, hm, hx, hi⟩
    · simp [Value.cells] at hcs
      obtain ⟨rfl, rfl, rfl⟩ := hcs
      exact ⟨[], _, _, _, ArgAt.mk_nil el49, SlArg.none eo49, .inl ⟨rfl, fun ids => rfl⟩⟩
    · simp [Value.cells] at hcs
      obtain ⟨rfl, rfl, rfl⟩ := hcs
      refine arg_births (V0 := V0) (V1 := V1) hl fun i hlt => ?_
      obtain ⟨g0, g1, g2, g3⟩ := hi i (by rw [hm]; split <;> omega)
      obtain ⟨z, e1, _⟩ := DataW.trod_int Tryd.underlying22 g2
      obtain ⟨t, e2, _⟩ := DataW.trod_int Tryd.underlying22 g3
      exact ⟨g0, g1, ⟨z, by simpa using e1⟩, t, by simpa using e2⟩
  obtain ⟨l, vl, o0, r0, A0⟩ := g0
  obtain ⟨x, hx0⟩ := line_of (cs := xs.toList) hf2
  obtain ⟨y, hy0⟩ := line_of (cs := ys.toList) hf3
  have hx : xs = #[.int .u64 x.now, .int .u64 x.bef, .int .u64 x.o0, .int .u64 x.o1] := Array.ext' hx0
  have hy : ys = #[.int .u64 y.now, .int .u64 y.bef, .int .u64 y.o0, .int .u64 y.o1] := Array.ext' hy0
  have wk := walk (globPart.globOK hL) (g := g) (x := x) (y := y) A0
  rw [← hx, ← hy] at wk
  refine wk.mono fun e W' ⟨he, bel⟩ => ?_
  subst he
  have ARG1 : DataW.Trod enc Tryd.prog W' 0 (fun x => decide (x < W.heap.size)) true 23 (.slice a0 len cap) d1 p1 :=
    WideElems.Trod_stays laidOut (by kernel_rfl) (of_decide_eq_true (by kernel_rfl)) h1k (fun x hx => same_below bel (hlt1 x hx)) (fun x hx => by simpa using hlt1 x hx)
  have ARG2 : DataW.Trod enc Tryd.prog W' 0 (fun x => decide (x < W.heap.size)) true 26 (.agg xs) d2 p2 :=
    WideElems.Trod_stays laidOut (by kernel_rfl) (of_decide_eq_true (by kernel_rfl)) h2k (fun x hx => same_below bel (hlt2 x hx)) (fun x hx => by simpa using hlt2 x hx)
  have ARG3 : DataW.Trod enc Tryd.prog W' 0 (fun x => decide (x < W.heap.size)) true 26 (.agg ys) d3 p3 :=
    WideElems.Trod_stays laidOut (by kernel_rfl) (of_decide_eq_true (by kernel_rfl)) h3k (fun x hx => same_below bel (hlt3 x hx)) (fun x hx => by simpa using hlt3 x hx)
  exact ⟨_, rfl, _, _, _, [], _, [], hW', trodAll_mk1 (shut_bool Tryd.underlying4 _), trodAll_mk4 (shut_int Tryd.underlying22 wg) ARG1 ARG2 ARG3, rfl, bel.frame _, fun h => by cases h⟩
theorem over : Rows.ghostTurnsRow.holds Tryd.pinned (OpenSpec.ofChange Rows.ghostTurnsSpec) :=
  OpenClaim.holds_of_wide 3 Tryd.f3 rfl rfl rfl rfl rfl rfl rfl ⟨rfl, rfl, rfl, rfl, rfl⟩ rfl rfl rfl rfl rfl (by kernel_rfl) Tryd.func3 (by kernel_rfl)
    (of_decide_eq_true (by kernel_rfl)) (by unfold Func.isWrapper; first | (rw [if_pos (by decide +kernel)]; kernel_rfl) | (rw [if_neg (by decide +kernel)]; exact ⟨rfl, rfl⟩))
    (fun os started H enc _ => lifted os started H enc)
theorem proved : Rows.GhostTurnsCardSaid :=
  Claim7.holds_tied_plain_at .later [] [.data] true (true, "6b0453e4a791626b5197aee37af11b38422f09764b237f21d0236855f63ceab1") false
    over (fun _ h => by cases h) (by kernel_rfl) (fun _ h => by cases h) ghostTurns_row_tie rfl ⟨rfl, rfl⟩ (by kernel_rfl) rfl
    (fun f fn hf hfn => by
      obtain rfl : f = 3 := Option.some.inj ((show Tryd.prog.funcNamed "gemel/gemellaw22.GhostTurns" = some 3 by kernel_rfl).symm.trans hf) |>.symm
      obtain rfl : fn = Tryd.f3 := (Option.some.inj (Tryd.func3.symm.trans hfn)).symm
      exact ⟨by kernel_rfl, fun j t ht => by
        rw [Tryd.params3] at ht
        match j with
        | 0 => simp at ht; subst ht; exact (by kernel_rfl : Tryd.prog.wantsStandIn 22 = false)
        | 1 => simp at ht; subst ht; exact (by kernel_rfl : Tryd.prog.wantsStandIn 23 = false)
        | 2 => simp at ht; subst ht; exact (by kernel_rfl : Tryd.prog.wantsStandIn 26 = false)
        | 3 => simp at ht; subst ht; exact (by kernel_rfl : Tryd.prog.wantsStandIn 26 = false)
        | j + 4 => simp at ht⟩)
    (by kernel_rfl)
end
#print axioms proved
end Go.Proofs.YtidmijpfoodkoaaDoor.gho
end
