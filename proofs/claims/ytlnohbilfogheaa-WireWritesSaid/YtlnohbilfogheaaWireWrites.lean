/-
  PROVED HERE: 'Rows.WireWritesSaid': for every list of parts the call of the law's function returns true, and the list and the parts' bytes read as they did. No condition. THE WALK is a run of the function's text in an abstract machine (the texts WaA to WaF show that it is sound), with the parts open: the law's loops by invariants, each kind of part a round (WbA to WbD), put and much by contracts.
-/
import Derived.Test.YtlnohbilfogheaaWbD
import Derived.WalkKit
import Derived.ProofKit
import Derived.OpenShut
import Derived.ShutString
import Derived.ChangeOld
import Derived.ChangeSlices
import Derived.Below
import Derived.Deep.SlicePairs
import Derived.Deep.Grids
import Derived.WideKeyArgs
section
open Go Go.Ax Go.Proofs.Ytlnohbilfogheaa
namespace Go.Proofs.Ytlnohbilfogheaa.wwr
set_option linter.unusedVariables false
def ko5 : List Nat := (List.range 100).filter fun x => !Nat.beq x 87
noncomputable def c10 : Code := Option.getD Try.f10.body .skip
noncomputable def L10 : Code := lopB (blkB (seqR (seqL (dropC 1 c10))))
noncomputable def fr10 (n i a : Nat) : AFr := xFr [(0, .slice (some (0, 0)) n (.atl n)), (2, .bool false), (3, nI a), (4, nI i)] 31
noncomputable def tM (n i a L m : Nat) (R : AO) (rows : Nat → AO) (V : AV) : Tr (Exit × AFr × ASt) := (TM E3 noSum [] fl0 60).ex ⟨[7, 18, 20, 21, 22], [], [8, 11], []⟩ none L10 (fr10 n i a) (stB R rows)
noncomputable def tN (n : Nat) (R : AO) (rows : Nat → AO) : Tr (Exit × AFr × ASt) := (TM E3 noSum [] fl0 60).ex fl0 none (preC 1 c10) { m := putArgs [argL n] 0 .e, n := 31, defs := [] } (stB R rows)
noncomputable def tO (n : Nat) (R : AO) (rows : Nat → AO) : Tr (Exit × AFr × ASt) := (TM E3 noSum [] fl0 60).ex fl0 none (seqL (seqL (dropC 1 c10))) (xFr [(0, argL n), (2, .bool false), (3, nI 0)] 31) (stB R rows)
noncomputable def tP (n i a : Nat) (R : AO) (rows : Nat → AO) : Tr (Exit × AFr × ASt) := (TM E3 noSum [] fl0 60).ex ⟨[25], [], [26, 29], []⟩ none (dropC 2 c10) (fr10 n i a) (stB R rows)
noncomputable def sm3 (q : CallT) : CallT := onlyC [10, 11, 13] q
noncomputable def F3 (n : Nat) : AFr := { m := putArgs [argL n] 0 .e, n := 103, defs := [] }
noncomputable def tAt (q : CallT) (n : Nat) (R : AO) (rows : Nat → AO) : Tr (Exit × AFr × ASt) := (TM E3 (sm3 q) [] fl0 60).ex ⟨[16, 17], [], [], []⟩ none (preC 3 c3) (F3 n) (stB R rows)
noncomputable def tAf (q : CallT) (n : Nat) (R : AO) (rows : Nat → AO) : Tr (Exit × AFr × ASt) := (TM E3 (sm3 q) [] fl0 60).ex ⟨[16, 17], [], [], []⟩ none (preC 3 c3) (F3 n) (stB R rows)
noncomputable def tB (n : Nat) (R : AO) (rows : Nat → AO) : Tr (Exit × AFr × ASt) := (TM E3 noSum [] fl0 60).ex fl0 none (seqL (seqL (dropC 3 c3))) (xFr [(0, argL n), (2, .bool false), (3, nilV), (4, .bool true)] 103) (stB R rows)
noncomputable def d3 : Code := dropC 4 c3
noncomputable def flE : List (Nat × Fl) := [(14, ⟨[], [16], [], []⟩), (47, ⟨[7], [], [], []⟩), (15, fl0)]
noncomputable def tCb (q : CallT) (n : Nat) (R : AO) (rows : Nat → AO) (VW V2 : AV) (W B2 : AO) : Tr (Exit × AFr × ASt) := (TM E3 (sm3 q) flE fl0 60).ex ⟨[40, 57], [43, 53], [], []⟩ none (preC 2 d3) (fr3 n n VW false) (stL R rows W)
noncomputable def tCn (q : CallT) (n : Nat) (R : AO) (rows : Nat → AO) : Tr (Exit × AFr × ASt) := (TM E3 (sm3 q) flE fl0 60).ex ⟨[40, 101], [43, 53, 77, 94, 96], [], []⟩ none d3 (fr3 n n nilV true) (stL R rows .dead)
noncomputable def tCr (q : CallT) (n L : Nat) (R : AO) (rows : Nat → AO) (W W2 R1 R2 : AO) : Tr (Exit × AFr × ASt) := (TM E3 (sm3 q) flE fl0 60).ex ⟨[40, 60], [43], [], []⟩ none (preC 3 d3) (fr3 n n (.slice (some (42, 0)) L (.rest 1)) true) (stL R rows W)
noncomputable def L3b : Code := lopB (blkB (seqR (seqL (dropC 3 d3))))
noncomputable def sB (L : Nat) : AV := .slice (some (88, 0)) L (.rest 1)
noncomputable def fr8 (n L : Nat) : AFr := xFr [(0, .slice (some (0, 0)) n (.atl n)), (2, .bool false), (3, .slice (some (42, 0)) L (.rest 1)), (4, .bool true), (8, .ptr (some (85, 0))), (9, sB L), (10, nI 0), (11, .slice (some (89, 0)) L (.rest 1))] 103
noncomputable def fr9 (n L i : Nat) : AFr := xFr [(0, .slice (some (0, 0)) n (.atl n)), (2, .bool false), (3, .slice (some (42, 0)) L (.rest 1)), (4, .bool true), (8, .ptr (some (85, 0))), (9, sB L), (10, nI 0), (11, .slice (some (89, 0)) L (.rest 1)), (12, nI i)] 103
noncomputable def wrg (L : Nat) : AO := wr (.slice (some (86, 0)) L (.rest 1)) false
noncomputable def st5 (L : Nat) (R : AO) (rows : Nat → AO) (W W2 B O : AO) : ASt := mkSt (base R rows ++ [(42, W), (85, wrg L), (86, W2), (88, B), (89, O)]) 90
noncomputable def tI (n L : Nat) (R : AO) (rows : Nat → AO) (W W2 B O : AO) : Tr (Exit × AFr × ASt) := (TM E3 noSum [] fl0 60).ex fl0 none (seqL (seqL (dropC 3 d3))) (fr8 n L) (st5 L R rows W W2 B O)
noncomputable def tR (n L i : Nat) (z : Int) (R : AO) (rows : Nat → AO) (W W2 B B' O : AO) : Tr (Exit × AFr × ASt) := (TM E3 noSum [] fl0 60).ex ⟨[63, 71, 72, 74, 4095], [], [64], []⟩ none L3b (fr9 n L i) (st5 L R rows W W2 B O)
noncomputable def tE (q : CallT) (n L : Nat) (x : List Nat) (R : AO) (rows : Nat → AO) (W W2 B O C : AO) : Tr (Exit × AFr × ASt) := (TM E3 (sm3 q) flE fl0 60).ex ⟨[81, 83, 84, 87, 89, 90, 101], [77, 94, 96], [], []⟩ none (dropC 4 d3) (fr9 n L L) (st5 L R rows W W2 B O)
noncomputable def fns4 : List (Nat × Func) := [(3, Try.f3), (10, Try.f10), (13, Try.f13), (14, Try.f14), (15, Try.f15), (47, Try.f47)]
noncomputable def E4 : Env := envEx Try.prog [0, 3, 4, 5, 9, 22, 25, 26, 28, 30, 31, 33, 34, 39, 89] fns4 []
noncomputable def tZ0 (q : CallT) : Tr (AV × ASt) := (TM E4 (onlyC [11] q) [(3, ⟨[101], [], [], []⟩)] fl0 60).call 3 [.slice none 0 (.known 0)] (mkSt [(0, .dead)] 1)
noncomputable def tZ1 (q : CallT) : Tr (AV × ASt) := (TM E4 (onlyC [11] q) [(3, ⟨[101], [], [], []⟩)] fl0 60).call 3 [.slice0] (mkSt [(0, .dead)] 1)
noncomputable def vcVM_s0 (R : AO) (rows : Nat → AO) : ASt := mkSt (base R rows ++ []) 42
theorem vcVM (n : Nat) (i : Nat) (a : Nat) (L : Nat) (m : Nat) (R : AO) (rows : Nat → AO) (V : AV) (Q : Exit × AFr × ASt → Prop) :
  (aBuiltinM E3 .len [22] [.slice (some (0, 0)) n (.atl n)] (vcVM_s0 R rows) = some (.int .i64 (.ofNat n), vcVM_s0 R rows) ∧ ifB (ltF (.ofNat i) (.ofNat n)) (ifB (!ltF (.ofNat 40) (.ofNat i)) (still (vcVM_s0 R rows) (aIndexAddr E3 22 (.slice (some (0, 0)) n (.atl n)) (.int .i64 (.ofNat i))) = some (.ptr (some (0, i * 4)), vcVM_s0 R rows) ∧ aLoad E3 25 (.ptr (some (0, i * 4 + 3))) (vcVM_s0 R rows) = some (V, vcVM_s0 R rows) ∧ aBuiltinM E3 .len [25] [V] (vcVM_s0 R rows) = some (.int .i64 (.ofNat L), vcVM_s0 R rows) ∧ aBuiltinM E3 .min [3, 3] [.int .i64 (.ofNat L), .int .i64 (.ofNat 20001)] (vcVM_s0 R rows) = some (.int .i64 (.ofNat m), vcVM_s0 R rows) ∧ Q (.normal, xFr [(0, .slice (some (0, 0)) n (.atl n)), (2, .bool false), (3, .int .i64 (wrapF .i64 (.ofNat a + .ofNat m))), (4, .int .i64 (wrapF .i64 (.ofNat i + .ofNat 1)))] 31, vcVM_s0 R rows)) (Q (.exit 0, xFr [(0, .slice (some (0, 0)) n (.atl n)), (2, .bool false), (3, .int .i64 (.ofNat a)), (4, .int .i64 (.ofNat i))] 31, vcVM_s0 R rows))) (Q (.exit 0, xFr [(0, .slice (some (0, 0)) n (.atl n)), (2, .bool false), (3, .int .i64 (.ofNat a)), (4, .int .i64 (.ofNat i))] 31, vcVM_s0 R rows))) =
  (tM n i a L m R rows V).allY (fun r => Q (canR [0, 2, 3, 4] ko5 r)) (.v (.int .i64 (.ofNat n), vcVM_s0 R rows) (.b (.b (.v (.ptr (some (0, i * 4)), vcVM_s0 R rows) (.v (V, vcVM_s0 R rows) (.v (.int .i64 (.ofNat L), vcVM_s0 R rows) (.v (.int .i64 (.ofNat m), vcVM_s0 R rows) .nil)))) .nil) .nil)) := by kernel_rfl
noncomputable def vcVN_s0 (R : AO) (rows : Nat → AO) : ASt := mkSt (base R rows ++ []) 42
theorem vcVN (n : Nat) (R : AO) (rows : Nat → AO) (Q : Exit × AFr × ASt → Prop) :
  (Q (.normal, xFr [(0, .slice (some (0, 0)) n (.atl n)), (2, .bool false), (3, .int .i64 (.ofNat 0))] 31, vcVN_s0 R rows)) =
  (tN n R rows).allY (fun r => Q (canR [0, 2, 3] ko5 r)) (.nil) := by kernel_rfl
noncomputable def vcVO_s0 (R : AO) (rows : Nat → AO) : ASt := mkSt (base R rows ++ []) 42
theorem vcVO (n : Nat) (R : AO) (rows : Nat → AO) (Q : Exit × AFr × ASt → Prop) :
  (Q (.normal, xFr [(0, .slice (some (0, 0)) n (.atl n)), (2, .bool false), (3, .int .i64 (.ofNat 0)), (4, .int .i64 (.ofNat 0))] 31, vcVO_s0 R rows)) =
  (tO n R rows).allY (fun r => Q (canR [0, 2, 3, 4] ko5 r)) (.nil) := by kernel_rfl
noncomputable def vcVP_s0 (R : AO) (rows : Nat → AO) : ASt := mkSt (base R rows ++ []) 42
theorem vcVP (n : Nat) (i : Nat) (a : Nat) (R : AO) (rows : Nat → AO) (Q : Exit × Option AV → Prop) :
  (aBuiltinM E3 .len [22] [.slice (some (0, 0)) n (.atl n)] (vcVP_s0 R rows) = some (.int .i64 (.ofNat n), vcVP_s0 R rows) ∧ ifB (ltF (.ofNat 40) (.ofNat n)) (Q (.ret, some (.bool true))) (ifB (ltF (.ofNat 20000) (.ofNat a)) (Q (.ret, some (.bool true))) (Q (.ret, some (.bool false))))) =
  (tP n i a R rows).allY (fun r => Q (r.1, ans (leaveA E3 Try.f10 r.2.1 r.2.2))) (.v (.int .i64 (.ofNat n), vcVP_s0 R rows) (.b .nil (.b .nil .nil))) := by kernel_rfl
noncomputable def vcVAt_s0 (R : AO) (rows : Nat → AO) : ASt := mkSt (base R rows ++ []) 42
theorem vcVAt (q : CallT) (n : Nat) (R : AO) (rows : Nat → AO) (Q : Exit × AFr × ASt → Prop) (Q2 : Exit × Option AV → Prop) :
  ((M E3 (drawA E3) (sm3 q) 56).call 10 [.slice (some (0, 0)) n (.atl n)] (vcVAt_s0 R rows) = some (.bool true, vcVAt_s0 R rows) ∧ (M E3 (drawA E3) (sm3 q) 54).call 11 [] (vcVAt_s0 R rows) = some (.bool true, vcVAt_s0 R rows) ∧ Q2 (.ret, some (.bool true))) =
  (tAt q n R rows).allY (mixQ E3 Try.f3 [0, 2, 3, 4] ko5 Q Q2) (.v (.bool true, vcVAt_s0 R rows) (.v (.bool true, vcVAt_s0 R rows) .nil)) := by kernel_rfl
noncomputable def vcVAf_s0 (R : AO) (rows : Nat → AO) : ASt := mkSt (base R rows ++ []) 42
theorem vcVAf (q : CallT) (n : Nat) (R : AO) (rows : Nat → AO) (Q : Exit × AFr × ASt → Prop) (Q2 : Exit × Option AV → Prop) :
  ((M E3 (drawA E3) (sm3 q) 56).call 10 [.slice (some (0, 0)) n (.atl n)] (vcVAf_s0 R rows) = some (.bool false, vcVAf_s0 R rows) ∧ Q (.normal, xFr [(0, .slice (some (0, 0)) n (.atl n)), (2, .bool false), (3, .slice none 0 (.known 0)), (4, .bool true)] 103, vcVAf_s0 R rows)) =
  (tAf q n R rows).allY (mixQ E3 Try.f3 [0, 2, 3, 4] ko5 Q Q2) (.v (.bool false, vcVAf_s0 R rows) .nil) := by kernel_rfl
noncomputable def vcVB_s0 (R : AO) (rows : Nat → AO) : ASt := mkSt (base R rows ++ []) 42
theorem vcVB (n : Nat) (R : AO) (rows : Nat → AO) (Q : Exit × AFr × ASt → Prop) :
  (Q (.normal, xFr [(0, .slice (some (0, 0)) n (.atl n)), (2, .bool false), (3, .slice none 0 (.known 0)), (4, .bool true), (5, .int .i64 (.ofNat 0))] 103, vcVB_s0 R rows)) =
  (tB n R rows).allY (fun r => Q (canR [0, 2, 3, 4, 5] ko5 r)) (.nil) := by kernel_rfl
noncomputable def vcVCb_s0 (R : AO) (rows : Nat → AO) (W : AO) : ASt := mkSt (base R rows ++ [(42, W)]) 43
noncomputable def vcVCb_s1 (R : AO) (rows : Nat → AO) (V2 : AV) (W : AO) (B2 : AO) : ASt := mkSt (base R rows ++ [(42, W), (85, .cells [V2, .bool true] true), (86, B2)]) 87
theorem vcVCb (q : CallT) (n : Nat) (R : AO) (rows : Nat → AO) (VW : AV) (V2 : AV) (W : AO) (B2 : AO) (Q : Exit × AFr × ASt → Prop) (Q2 : Exit × Option AV → Prop) :
  ((M E3 (drawA E3) (sm3 q) 58).call 13 [.slice (some (0, 0)) n (.atl n)] (vcVCb_s0 R rows W) = some (.ptr (some (85, 0)), vcVCb_s1 R rows V2 W B2) ∧ (M E3 (drawA E3) (sm3 q) 54).call 11 [] (vcVCb_s1 R rows V2 W B2) = some (.bool true, vcVCb_s1 R rows V2 W B2) ∧ Q2 (.ret, some (.bool true))) =
  (tCb q n R rows VW V2 W B2).allY (mixQ E3 Try.f3 [0] ko5 Q Q2) (.v (.ptr (some (85, 0)), vcVCb_s1 R rows V2 W B2) (.v (.bool true, vcVCb_s1 R rows V2 W B2) .nil)) := by kernel_rfl
noncomputable def vcVCn_s0 (R : AO) (rows : Nat → AO) : ASt := mkSt (base R rows ++ [(42, .dead)]) 43
noncomputable def vcVCn_s1 (R : AO) (rows : Nat → AO) : ASt := mkSt (base R rows ++ [(42, .dead), (85, .cells [.slice none 0 (.known 0), .bool false] true), (86, .dead)]) 87
theorem vcVCn (q : CallT) (n : Nat) (R : AO) (rows : Nat → AO) (Q : Exit × Option AV → Prop) :
  ((M E3 (drawA E3) (sm3 q) 58).call 13 [.slice (some (0, 0)) n (.atl n)] (vcVCn_s0 R rows) = some (.ptr (some (85, 0)), vcVCn_s1 R rows) ∧ (M E3 (drawA E3) (sm3 q) 52).call 11 [] (vcVCn_s1 R rows) = some (.bool true, vcVCn_s1 R rows) ∧ Q (.ret, some (.bool true))) =
  (tCn q n R rows).allY (fun r => Q (r.1, ans (leaveA E3 Try.f3 r.2.1 r.2.2))) (.v (.ptr (some (85, 0)), vcVCn_s1 R rows) (.v (.bool true, vcVCn_s1 R rows) .nil)) := by kernel_rfl
noncomputable def vcVCr_s0 (R : AO) (rows : Nat → AO) (W : AO) : ASt := mkSt (base R rows ++ [(42, W)]) 43
noncomputable def vcVCr_s1 (L : Nat) (R : AO) (rows : Nat → AO) (W : AO) (W2 : AO) : ASt := mkSt (base R rows ++ [(42, W), (85, .cells [.slice (some (86, 0)) L (.rest 1), .bool false] true), (86, W2)]) 87
noncomputable def vcVCr_s2 (L : Nat) (R : AO) (rows : Nat → AO) (W : AO) (W2 : AO) : ASt := mkSt (base R rows ++ [(42, W), (85, .cells [.slice (some (86, 0)) L (.rest 1), .bool false] true), (86, W2), (87, .cells [] true)]) 88
noncomputable def vcVCr_s3 (L : Nat) (R : AO) (rows : Nat → AO) (W : AO) (W2 : AO) (R1 : AO) : ASt := mkSt (base R rows ++ [(42, W), (85, .cells [.slice (some (86, 0)) L (.rest 1), .bool false] true), (86, W2), (87, .cells [] true), (88, R1)]) 89
noncomputable def vcVCr_s4 (L : Nat) (R : AO) (rows : Nat → AO) (W : AO) (W2 : AO) (R1 : AO) (R2 : AO) : ASt := mkSt (base R rows ++ [(42, W), (85, .cells [.slice (some (86, 0)) L (.rest 1), .bool false] true), (86, W2), (87, .cells [] true), (88, R1), (89, R2)]) 90
noncomputable def vcVCr_s5 (L : Nat) (R : AO) (rows : Nat → AO) (W : AO) (W2 : AO) (R1 : AO) (R2 : AO) : ASt := mkSt (base R rows ++ [(42, W), (85, .cells [.slice (some (86, 0)) L (.rest 1), .bool false] true), (86, W2), (88, R1), (89, R2)]) 90
theorem vcVCr (q : CallT) (n : Nat) (L : Nat) (R : AO) (rows : Nat → AO) (W : AO) (W2 : AO) (R1 : AO) (R2 : AO) (Q : Exit × AFr × ASt → Prop) (Q2 : Exit × Option AV → Prop) :
  ((M E3 (drawA E3) (sm3 q) 58).call 13 [.slice (some (0, 0)) n (.atl n)] (vcVCr_s0 R rows W) = some (.ptr (some (85, 0)), vcVCr_s1 L R rows W W2) ∧ aBuiltinM E3 .append [25, 25] [.slice (some (87, 0)) 0 (.known 0), .slice (some (86, 0)) L (.rest 1)] (vcVCr_s2 L R rows W W2) = some (.slice (some (88, 0)) L (.rest 1), vcVCr_s3 L R rows W W2 R1) ∧ aBuiltinM E3 .append [25, 25] [.slice none 0 (.known 0), .slice (some (88, 0)) L (.rest 1)] (vcVCr_s3 L R rows W W2 R1) = some (.slice (some (89, 0)) L (.rest 1), vcVCr_s4 L R rows W W2 R1 R2) ∧ Q (.normal, xFr [(0, .slice (some (0, 0)) n (.atl n)), (2, .bool false), (3, .slice (some (42, 0)) L (.rest 1)), (4, .bool true), (8, .ptr (some (85, 0))), (9, .slice (some (88, 0)) L (.rest 1)), (10, .int .i64 (.ofNat 0)), (11, .slice (some (89, 0)) L (.rest 1))] 103, vcVCr_s5 L R rows W W2 R1 R2)) =
  (tCr q n L R rows W W2 R1 R2).allY (mixQ E3 Try.f3 [0, 2, 3, 4, 8, 9, 10, 11] ko5 Q Q2) (.v (.ptr (some (85, 0)), vcVCr_s1 L R rows W W2) (.v (.slice (some (88, 0)) L (.rest 1), vcVCr_s3 L R rows W W2 R1) (.v (.slice (some (89, 0)) L (.rest 1), vcVCr_s4 L R rows W W2 R1 R2) .nil))) := by kernel_rfl
noncomputable def vcVI_s0 (L : Nat) (R : AO) (rows : Nat → AO) (W : AO) (W2 : AO) (B : AO) (O : AO) : ASt := mkSt (base R rows ++ [(42, W), (85, .cells [.slice (some (86, 0)) L (.rest 1), .bool false] true), (86, W2), (88, B), (89, O)]) 90
theorem vcVI (n : Nat) (L : Nat) (R : AO) (rows : Nat → AO) (W : AO) (W2 : AO) (B : AO) (O : AO) (Q : Exit × AFr × ASt → Prop) :
  (Q (.normal, xFr [(0, .slice (some (0, 0)) n (.atl n)), (2, .bool false), (3, .slice (some (42, 0)) L (.rest 1)), (4, .bool true), (8, .ptr (some (85, 0))), (9, .slice (some (88, 0)) L (.rest 1)), (10, .int .i64 (.ofNat 0)), (11, .slice (some (89, 0)) L (.rest 1)), (12, .int .i64 (.ofNat 0))] 103, vcVI_s0 L R rows W W2 B O)) =
  (tI n L R rows W W2 B O).allY (fun r => Q (canR [0, 2, 3, 4, 8, 9, 10, 11, 12] ko5 r)) (.nil) := by kernel_rfl
noncomputable def vcVR_s0 (L : Nat) (R : AO) (rows : Nat → AO) (W : AO) (W2 : AO) (B : AO) (O : AO) : ASt := mkSt (base R rows ++ [(42, W), (85, .cells [.slice (some (86, 0)) L (.rest 1), .bool false] true), (86, W2), (88, B), (89, O)]) 90
noncomputable def vcVR_s1 (L : Nat) (R : AO) (rows : Nat → AO) (W : AO) (W2 : AO) (B' : AO) (O : AO) : ASt := mkSt (base R rows ++ [(42, W), (85, .cells [.slice (some (86, 0)) L (.rest 1), .bool false] true), (86, W2), (88, B'), (89, O)]) 90
theorem vcVR (n : Nat) (L : Nat) (i : Nat) (z : Int) (R : AO) (rows : Nat → AO) (W : AO) (W2 : AO) (B : AO) (B' : AO) (O : AO) (Q : Exit × AFr × ASt → Prop) :
  (aBuiltinM E3 .len [25] [.slice (some (88, 0)) L (.rest 1)] (vcVR_s0 L R rows W W2 B O) = some (.int .i64 (.ofNat L), vcVR_s0 L R rows W W2 B O) ∧ ifB (ltF (.ofNat i) (.ofNat L)) (still (vcVR_s0 L R rows W W2 B O) (aIndexAddr E3 25 (.slice (some (88, 0)) L (.rest 1)) (.int .i64 (.ofNat i))) = some (.ptr (some (88, i)), vcVR_s0 L R rows W W2 B O) ∧ aLoad E3 5 (.ptr (some (88, i))) (vcVR_s0 L R rows W W2 B O) = some (.int .u8 z, vcVR_s0 L R rows W W2 B O) ∧ still (vcVR_s0 L R rows W W2 B O) (aIndexAddr E3 25 (.slice (some (88, 0)) L (.rest 1)) (.int .i64 (.ofNat i))) = some (.ptr (some (88, i)), vcVR_s0 L R rows W W2 B O) ∧ Option.map (fun s => (undefA, s)) (aStore E3 5 (.ptr (some (88, i))) (.int .u8 (wrapF .u8 (z + .ofNat 1))) (vcVR_s0 L R rows W W2 B O)) = some (.tuple [], vcVR_s1 L R rows W W2 B' O) ∧ Q (.normal, xFr [(0, .slice (some (0, 0)) n (.atl n)), (2, .bool false), (3, .slice (some (42, 0)) L (.rest 1)), (4, .bool true), (8, .ptr (some (85, 0))), (9, .slice (some (88, 0)) L (.rest 1)), (10, .int .i64 (.ofNat 0)), (11, .slice (some (89, 0)) L (.rest 1)), (12, .int .i64 (wrapF .i64 (.ofNat i + .ofNat 1)))] 103, vcVR_s1 L R rows W W2 B' O)) (Q (.exit 2, xFr [(0, .slice (some (0, 0)) n (.atl n)), (2, .bool false), (3, .slice (some (42, 0)) L (.rest 1)), (4, .bool true), (8, .ptr (some (85, 0))), (9, .slice (some (88, 0)) L (.rest 1)), (10, .int .i64 (.ofNat 0)), (11, .slice (some (89, 0)) L (.rest 1)), (12, .int .i64 (.ofNat i))] 103, vcVR_s0 L R rows W W2 B O))) =
  (tR n L i z R rows W W2 B B' O).allY (fun r => Q (canR [0, 2, 3, 4, 8, 9, 10, 11, 12] ko5 r)) (.v (.int .i64 (.ofNat L), vcVR_s0 L R rows W W2 B O) (.b (.v (.ptr (some (88, i)), vcVR_s0 L R rows W W2 B O) (.v (.int .u8 z, vcVR_s0 L R rows W W2 B O) (.v (.ptr (some (88, i)), vcVR_s0 L R rows W W2 B O) (.v (.tuple [], vcVR_s1 L R rows W W2 B' O) .nil)))) .nil)) := by kernel_rfl
noncomputable def vcVE_s0 (L : Nat) (R : AO) (rows : Nat → AO) (W : AO) (W2 : AO) (B : AO) (O : AO) : ASt := mkSt (base R rows ++ [(42, W), (85, .cells [.slice (some (86, 0)) L (.rest 1), .bool false] true), (86, W2), (88, B), (89, O), (90, .cells [] true)]) 91
noncomputable def vcVE_s1 (L : Nat) (R : AO) (rows : Nat → AO) (W : AO) (W2 : AO) (B : AO) (O : AO) (C : AO) : ASt := mkSt (base R rows ++ [(42, W), (85, .cells [.slice (some (86, 0)) L (.rest 1), .bool false] true), (86, W2), (88, B), (89, O), (90, .cells [] true), (91, C)]) 92
theorem vcVE (q : CallT) (n : Nat) (L : Nat) (x : List Nat) (R : AO) (rows : Nat → AO) (W : AO) (W2 : AO) (B : AO) (O : AO) (C : AO) (Q : Exit × Option AV → Prop) :
  (aBuiltinM E3 .append [25, 25] [.slice (some (90, 0)) 0 (.known 0), .slice (some (86, 0)) L (.rest 1)] (vcVE_s0 L R rows W W2 B O) = some (.slice (some (91, 0)) L (.rest 1), vcVE_s1 L R rows W W2 B O C) ∧ aConvert E3 25 9 (.slice (some (89, 0)) L (.rest 1)) (vcVE_s1 L R rows W W2 B O C) = some (.str x, vcVE_s1 L R rows W W2 B O C) ∧ aConvert E3 25 9 (.slice (some (42, 0)) L (.rest 1)) (vcVE_s1 L R rows W W2 B O C) = some (.str x, vcVE_s1 L R rows W W2 B O C) ∧ still (vcVE_s1 L R rows W W2 B O C) (aBin E3 .eql 9 (.tmp 81) (.tmp 83) (.str x) (.str x)) = some (.bool true, vcVE_s1 L R rows W W2 B O C) ∧ aConvert E3 25 9 (.slice (some (91, 0)) L (.rest 1)) (vcVE_s1 L R rows W W2 B O C) = some (.str x, vcVE_s1 L R rows W W2 B O C) ∧ aConvert E3 25 9 (.slice (some (42, 0)) L (.rest 1)) (vcVE_s1 L R rows W W2 B O C) = some (.str x, vcVE_s1 L R rows W W2 B O C) ∧ still (vcVE_s1 L R rows W W2 B O C) (aBin E3 .eql 9 (.tmp 87) (.tmp 89) (.str x) (.str x)) = some (.bool true, vcVE_s1 L R rows W W2 B O C) ∧ (M E3 (drawA E3) (sm3 q) 57).call 11 [] (vcVE_s1 L R rows W W2 B O C) = some (.bool true, vcVE_s1 L R rows W W2 B O C) ∧ Q (.ret, some (.bool true))) =
  (tE q n L x R rows W W2 B O C).allY (fun r => Q (r.1, ans (leaveA E3 Try.f3 r.2.1 r.2.2))) (.v (.slice (some (91, 0)) L (.rest 1), vcVE_s1 L R rows W W2 B O C) (.v (.str x, vcVE_s1 L R rows W W2 B O C) (.v (.str x, vcVE_s1 L R rows W W2 B O C) (.v (.bool true, vcVE_s1 L R rows W W2 B O C) (.v (.str x, vcVE_s1 L R rows W W2 B O C) (.v (.str x, vcVE_s1 L R rows W W2 B O C) (.v (.bool true, vcVE_s1 L R rows W W2 B O C) (.v (.bool true, vcVE_s1 L R rows W W2 B O C) .nil)))))))) := by kernel_rfl
noncomputable def vcVZ0_s0 : ASt := mkSt [(0, .dead), (1, .cells [.slice none 0 (.known 0), .bool false] true)] 2
noncomputable def vcVZ0_s1 : ASt := mkSt [] 2
theorem vcVZ0 (q : CallT) (Q : AV × ASt → Prop) :
  ((M E4 (drawA E4) (onlyC [11] q) 46).call 11 [] (vcVZ0_s0) = some (.bool true, vcVZ0_s0) ∧ Q (.bool true, vcVZ0_s1)) =
  (tZ0 q).allY (fun r => Q (r.1, canS [] r.2)) (.v (.bool true, vcVZ0_s0) .nil) := by kernel_rfl
noncomputable def vcVZ1_s0 : ASt := mkSt [(0, .dead), (1, .cells [.slice none 0 (.known 0), .bool false] true)] 2
noncomputable def vcVZ1_s1 : ASt := mkSt [] 2
theorem vcVZ1 (q : CallT) (Q : AV × ASt → Prop) :
  ((M E4 (drawA E4) (onlyC [11] q) 46).call 11 [] (vcVZ1_s0) = some (.bool true, vcVZ1_s0) ∧ Q (.bool true, vcVZ1_s1)) =
  (tZ1 q).allY (fun r => Q (r.1, canS [] r.2)) (.v (.bool true, vcVZ1_s0) .nil) := by kernel_rfl
end Go.Proofs.Ytlnohbilfogheaa.wwr
end

section
open Go Go.Ax Go.Proofs.Ytlnohbilfogheaa
namespace Go.Proofs.Ytlnohbilfogheaa.wwr
set_option linter.unusedVariables false
theorem tc25 : cellT E3 25 = true := by kernel_rfl
theorem tc5 : cellT E3 5 = true := by kernel_rfl
def sumM (ps : List PV) : Nat := ps.foldl (fun a p => a + Nat.min p.b.length 20001) 0
theorem sumM_succ {ps : List PV} {k : Nat} {p : PV} (h : ps[k]? = some p) : sumM (ps.take (k + 1)) = sumM (ps.take k) + Nat.min p.b.length 20001 := by
  unfold sumM
  rw [List.take_add_one, h, List.foldl_append]; rfl
theorem minA {S : ASt} {L : Nat} : aBuiltinM E3 .min [3, 3] [.int .i64 (.ofNat L), .int .i64 (.ofNat 20001)] S = some (.int .i64 (.ofNat (Nat.min L 20001)), S) := by
  have e : aBuiltinM E3 .min [3, 3] [.int .i64 (.ofNat L), .int .i64 (.ofNat 20001)] S = some (.int .i64 (bif ltF (.ofNat 20001) (.ofNat L) then .ofNat 20001 else .ofNat L), S) := by kernel_rfl
  rw [e, ltF_nn]
  by_cases h : 20001 < L
  · rw [decide_eq_true h, cond_true, show Nat.min L 20001 = 20001 from Nat.min_eq_right (by omega)]
  · rw [decide_eq_false h, cond_false, show Nat.min L 20001 = L from Nat.min_eq_left (by omega)]
structure CameN (ps : List PV) (rows : Nat → AO) (n : Nat) : Prop extends CameQ ps rows where
  few : n ≤ 40 → ps.length = n
  many : 41 ≤ n → ps.length = 41
def muchB (ps : List PV) (n : Nat) : Bool := decide (40 < n) || decide (20000 < sumM ps)
section
variable {ps : List PV} {rows : Nat → AO} {n i a : Nat} {p : PV} {S : ASt}
noncomputable def fM (n : Nat) : AFr := { m := putArgs [argL n] 0 .e, n := 31, defs := [] }
def QM (ps : List PV) (n : Nat) (r : Exit × AFr × ASt) : Prop := (r.1 = .normal ∨ r.1 = .ret) ∧ ans (leaveA E3 Try.f10 r.2.1 r.2.2) = some (.bool (muchB ps n))
theorem xload25 {S : ASt} (hS : S.h.get 0 = some (RP ps)) (hp : ps[i]? = some p) : aLoad E3 25 (.ptr (some (0, i * 4 + 3))) S = some (p.v, S) := load_at tc25 hS (fm_get enc_len hp rfl)
theorem roundM (C : CameN ps rows n) (hi : i < n) (h4 : i ≤ 40) (hp : ps[i]? = some p) (ha : a ≤ 1000000) : Trip Try.prog 42 none L10 (fr10 n i a) (stB (RP ps) rows) (Stops 42 .normal (fr10 n (i + 1) (a + Nat.min p.b.length 20001)) (stB (RP ps) rows)) := by
  have hm : Nat.min p.b.length 20001 ≤ 20001 := Nat.min_le_right _ _
  refine (Trip.runY E3ok noSum_ok (Eq.mp (vcVM n i a p.b.length (Nat.min p.b.length 20001) (RP ps) rows p.v (Stops 42 .normal (fr10 n (i + 1) (a + Nat.min p.b.length 20001)) (stB (RP ps) rows))) ⟨xlen, ifB_mk (fun _ => ifB_mk (fun _ => ⟨xidx hi, xload25 (by kernel_rfl) hp, xlenB C.toCameP hp, minA, rfl, ?_⟩) fun h => ?_) fun h => nlt hi h⟩)).mono fun r hr => Stops.can hr
  · rw [show (Int.ofNat i + Int.ofNat 1) = Int.ofNat (i + 1) from rfl, show (Int.ofNat a + Int.ofNat (Nat.min p.b.length 20001)) = Int.ofNat (a + Nat.min p.b.length 20001) from rfl, wrap_nat (by omega), wrap_nat (by omega)]
    exact Wk.refl _ _ _
  · rw [ltF_nn] at h
    have : ¬ 40 < i := by omega
    rw [decide_eq_false this] at h
    cases h
theorem exitM (C : CameN ps rows n) (hi : i = ps.length) (hn : i = n ∨ i = 41) : Trip Try.prog 42 none L10 (fr10 n i a) (stB (RP ps) rows) (Stops 42 (.exit 0) (fr10 n i a) (stB (RP ps) rows)) := by
  refine (Trip.runY E3ok noSum_ok (Eq.mp (vcVM n i a 0 0 (RP ps) rows undefA (Stops 42 (.exit 0) (fr10 n i a) (stB (RP ps) rows))) ⟨xlen, ifB_mk (fun g => ifB_mk (fun h => ?_) fun h => ⟨rfl, Wk.refl _ _ _⟩) fun h => ⟨rfl, Wk.refl _ _ _⟩⟩)).mono fun r hr => Stops.can hr
  rw [ltF_nn] at g
  have g := of_decide_eq_true g
  have e : i = 41 := by omega
  rw [ltF_nn, e] at h
  cases h
theorem loopM (C : CameN ps rows n) : Trip Try.prog 42 none (.block 0 (.loop L10)) (fr10 n 0 0) (stB (RP ps) rows) (Stops 42 .normal (fr10 n ps.length (sumM ps)) (stB (RP ps) rows)) := by
  have hl := C.len
  have hf := C.few
  have hm := C.many
  refine Trip.block (Trip.loop (fun m fr st => ∃ k a, k ≤ ps.length ∧ m = ps.length - k ∧ sumM (ps.take k) = a ∧ a ≤ k * 20001 ∧ fr = fr10 n k a ∧ st = stB (RP ps) rows) ?_ ps.length ⟨0, 0, by omega, by omega, rfl, by omega, rfl, rfl⟩)
  rintro m fr st ⟨k, a, hk, rfl, hI, ha, rfl, rfl⟩
  by_cases e : k < ps.length
  · obtain ⟨p, hp⟩ : ∃ p, ps[k]? = some p := ⟨_, List.getElem?_eq_getElem e⟩
    refine (roundM C (by omega) (by omega) hp (by omega)).mono ?_
    rintro ⟨e', fr', st'⟩ ⟨h1, h2⟩
    simp only at h1 h2
    subst h1
    have hmin : Nat.min p.b.length 20001 ≤ 20001 := Nat.min_le_right _ _
    exact ⟨ps.length - (k + 1), _, _, by omega, h2, k + 1, a + Nat.min p.b.length 20001, by omega, rfl, by rw [sumM_succ hp, hI], by omega, rfl, rfl⟩
  · have ek : k = ps.length := by omega
    subst ek
    rw [List.take_length] at hI
    refine (exitM C rfl (by omega)).mono ?_
    rintro ⟨e', fr', st'⟩ ⟨h1, h2⟩
    simp only at h1 h2
    subst h1
    rw [hI]
    exact ⟨fun _ => ⟨rfl, h2⟩, fun h => absurd rfl h⟩
theorem shapeM : dropC 1 c10 = .seq (.seq (seqL (seqL (dropC 1 c10))) (.block 0 (.loop L10))) (dropC 2 c10) := by kernel_rfl
theorem bodyM (C : CameN ps rows n) : Trip Try.prog 42 none c10 (fM n) (stB (RP ps) rows) (QM ps n) := by
  refine Trip.preY E3ok noSum_ok (k := 1) (kf := [0, 2, 3]) (ko := ko5) (by kernel_rfl) (Q1 := fun r => r = (.normal, xFr [(0, argL n), (2, .bool false), (3, nI 0)] 31, stB (RP ps) rows)) (Eq.mp (vcVN n (RP ps) rows (fun r => r = (.normal, xFr [(0, argL n), (2, .bool false), (3, nI 0)] 31, stB (RP ps) rows))) rfl) ?_ ?_
  · rintro F S h
    cases h
    rw [shapeM]
    refine Trip.seq (R := Stops 42 .normal (fr10 n ps.length (sumM ps)) (stB (RP ps) rows)) (Trip.seq (R := Stops 42 .normal (fr10 n 0 0) (stB (RP ps) rows))
      ((Trip.runY E3ok noSum_ok (Eq.mp (vcVO n (RP ps) rows (Stops 42 .normal (fr10 n 0 0) (stB (RP ps) rows))) ⟨rfl, Wk.refl _ _ _⟩)).mono fun r hr => Stops.can hr) (fun fr' st' hq => Trip.less hq.2 (loopM C)) (fun e fr' st' hne hq => absurd hq.1 hne)) (fun fr' st' hq => ?_) (fun e fr' st' hne hq => absurd hq.1 hne)
    refine Trip.less hq.2 ((Trip.runY E3ok noSum_ok (Eq.mp (vcVP n ps.length (sumM ps) (RP ps) rows (fun q => q = (.ret, some (.bool (muchB ps n))))) ⟨xlen, ifB_mk (fun h => ?_) fun h => ifB_mk (fun g => ?_) fun g => ?_⟩)).mono fun r hr => ⟨.inr (congrArg Prod.fst hr), congrArg Prod.snd hr⟩)
    · rw [ltF_nn] at h
      unfold muchB
      rw [h]; rfl
    · rw [ltF_nn] at h g
      unfold muchB
      rw [h, g]; rfl
    · rw [ltF_nn] at h g
      unfold muchB
      rw [h, g]; rfl
  · intro r h1 h2
    exact absurd (congrArg Prod.fst h2) h1
theorem muchAt (C : CameN ps rows n) : AtMem Try.prog 10 [argL n] (stB (RP ps) rows) (.bool (muchB ps n)) := by
  refine AtMem.of_trip E3ok (fn := Try.f10) (by kernel_rfl) (c := c10) (by kernel_rfl) (by kernel_rfl) ?_
  have hfr : ({ m := putArgs [argL n] 0 .e, n := Try.f10.ntmps, defs := [] } : AFr) = fM n := by kernel_rfl
  rw [hfr]
  exact bodyM C
theorem readRo {P : Program} {f : Nat} {args : List AV} {S S1 : ASt} {v : AV} (hrun : AtMem P f args S1 v) (hp : refsV 0 v) (hn : S1.next = S.next)
    (hs : ∀ j x, S1.h.get j = some x → x ≠ .dead → S.h.get j = some x ∧ x.own = false) (hdom : ∀ j x, S1.h.get j = some x → j < S1.next) : Call1 P f args S (v, S) := by
  intro B w0 ι w args' hsr hargs
  let B1 : Prot := ⟨fun k => k < w.heap.size, fun k => k < w.heap.size, fun _ => False⟩
  have hsr1 : SR B1 w ι S1 w := by
    refine ⟨Keeps.refl _ _, fun k hk => by rcases hk with h | h <;> exact h, fun j x hj hd => ?_, fun j x L hj ho hL => ?_, fun j L hL => ?_, hdom, fun j x L hj hd ho hL => ?_, fun i hi => hi.elim, fun g cs hg => ⟨.inl (hsr.globw g cs hg).lt, hsr.globw g cs hg⟩⟩
    · exact hsr.obj j x (hs j x hj hd).1 hd
    · have := (hs j x hj (own_nd ho)).2
      rw [ho] at this; cases this
    · rw [hn]; exact hsr.dom j L hL
    · obtain ⟨L', ob, h1, h2, _⟩ := hsr.obj j x (hs j x hj hd).1 hd
      rw [hL] at h1; cases h1
      exact (Array.getElem?_eq_some_iff.1 h2).1
  obtain ⟨k1, k2⟩ := hrun B1 w ι w args' (fun _ h => h) hsr1 hargs
  refine ⟨k1, k2.mono ?_⟩
  rintro e w' ⟨r, rfl, x, ι', rfl, _, h9, h10⟩
  exact ⟨x, ι, rfl, ι.le_refl, hsr.later ⟨h9.below.os, h9.below.tape, h9.below.output, h9.below.size, fun k hk => h9.below.block k (.inl hk)⟩, h10.noRef hp⟩
theorem muchAny (C : CameN ps rows n) : Call1 Try.prog 10 [argL n] (stB (RP ps) rows) (.bool (muchB ps n), stB (RP ps) rows) :=
  readRo (muchAt C) (by simp [refsV]) rfl (fun j x hj hd => by
    refine ⟨hj, ?_⟩
    rcases base_get hj with ⟨rfl, rfl⟩ | ⟨k, hk, rfl, rfl⟩
    · rfl
    · exact (rowsRef C.toCameQ).1) domB
theorem sumM_le : ∀ {l : List PV} {p : PV} (a : Nat), p ∈ l → Nat.min p.b.length 20001 ≤ l.foldl (fun a p => a + Nat.min p.b.length 20001) a
  | q :: l, p, a, h => by
    have mono : ∀ (l : List PV) (a : Nat), a ≤ l.foldl (fun a p => a + Nat.min p.b.length 20001) a := fun l => by
      induction l with
      | nil => intro a; exact Nat.le_refl _
      | cons q l ih => intro a; exact Nat.le_trans (Nat.le_add_right _ _) (ih _)
    rcases List.mem_cons.1 h with rfl | h
    · exact Nat.le_trans (Nat.le_add_left _ _) (mono l _)
    · exact sumM_le (l := l) (p := p) (a + Nat.min q.b.length 20001) h
theorem few_of (C : CameN ps rows n) (h : muchB ps n = false) : ps.length = n ∧ ∀ p, p ∈ ps → p.b.length ≤ 20000 := by
  unfold muchB at h
  rw [Bool.or_eq_false_iff] at h
  obtain ⟨h1, h2⟩ := h
  have h1 := of_decide_eq_false h1
  have h2 := of_decide_eq_false h2
  refine ⟨C.few (by omega), fun p hp => ?_⟩
  have := sumM_le 0 hp
  have h3 : sumM ps ≤ 20000 := by omega
  have h4 : Nat.min p.b.length 20001 ≤ 20000 := Nat.le_trans this h3
  by_cases h5 : p.b.length ≤ 20001
  · rw [show Nat.min p.b.length 20001 = p.b.length from Nat.min_eq_left h5] at h4; exact h4
  · rw [show Nat.min p.b.length 20001 = 20001 from Nat.min_eq_right (by omega)] at h4; omega
end
end Go.Proofs.Ytlnohbilfogheaa.wwr
end

section
open Go Go.Ax Go.Proofs.Ytlnohbilfogheaa
namespace Go.Proofs.Ytlnohbilfogheaa.wwr
set_option linter.unusedVariables false
noncomputable def EK : Env := envEx Try.prog [0, 3, 4, 5, 9, 25, 28, 31, 33, 34, 89] [(11, Try.f11), (37, Try.f37), (38, Try.f38), (44, Try.f44), (14, Try.f14), (15, Try.f15), (47, Try.f47), (79, Try.f79), (78, Try.f78)] []
theorem EKok : Env.Ok Try.prog EK := envEx_ok (xs := []) ⟨⟨Try.func11, Try.call11⟩, ⟨Try.func37, Try.call37⟩, ⟨Try.func38, Try.call38⟩, ⟨Try.func44, Try.call44⟩, ⟨Try.func14, Try.call14⟩, ⟨Try.func15, Try.call15⟩, ⟨Try.func47, Try.call47⟩, ⟨Try.func79, Try.call79⟩, ⟨Try.func78, Try.call78⟩, trivial⟩ trivial (by kernel_rfl)
noncomputable def kC : CallT := sumC [⟨11, [], .bool true⟩]
theorem kC_ok : CallsOK Try.prog kC := sumC_ok (l := [⟨11, [], .bool true⟩]) ⟨memo_ok (n := 60) EKok noSum_ok Try.call11 (by kernel_rfl) (by kernel_rfl), trivial⟩
noncomputable def q3 (tab : List (Nat × List AV × ASt × (AV × ASt))) : CallT := orC kC (tabC tab)
theorem q3_ok {tab : List (Nat × List AV × ASt × (AV × ASt))} (h : ∀ e, e ∈ tab → Call1 Try.prog e.1 e.2.1 e.2.2.1 e.2.2.2) : CallsOK Try.prog (sm3 (q3 tab)) := onlyC_ok (orC_ok kC_ok (tabC_ok h))
theorem q3_one {f : Nat} {args : List AV} {S : ASt} {r : AV × ASt} (h : Call1 Try.prog f args S r) : CallsOK Try.prog (sm3 (q3 [(f, args, S, r)])) := q3_ok fun e he => by
  simp only [List.mem_cons, List.not_mem_nil, or_false] at he
  subst he
  exact h
theorem at_tab {f j : Nat} {args : List AV} {S : ASt} {r : AV × ASt} (hm : memN f [10, 11, 13] = true) (hk : kC f args S = none) : (M E3 (drawA E3) (sm3 (q3 [(f, args, S, r)])) (j + 1)).call f args S = some r :=
  call_at (onlyC_at hm (orC_r hk (tabC_hd ..)))
theorem at_known {tab : List (Nat × List AV × ASt × (AV × ASt))} {S : ASt} {j : Nat} : (M E3 (drawA E3) (sm3 (q3 tab)) (j + 1)).call 11 [] S = some (.bool true, S) := call_at (onlyC_at rfl (orC_l rfl))
theorem tstore5 {S : ASt} {cs : List AV} {i j : Nat} {Z : Int} (hS : S.h.get i = some (.cells cs true)) (hj : j < cs.length) : aStore E3 5 (.ptr (some (i, j))) (.int .u8 Z) S = some (S.put i (.cells (cs.set j (.int .u8 Z)) true)) := by
  obtain ⟨ti, h1, h2⟩ : ∃ ti, E3.ty.get 5 = some ti ∧ Nat.beq 1 ti.size = true := by
    obtain ⟨ti, h1⟩ : ∃ ti, E3.ty.get 5 = some ti := Option.isSome_iff_exists.mp (by kernel_rfl)
    refine ⟨ti, h1, ?_⟩
    have h3 : (match E3.ty.get 5 with | some ti => Nat.beq 1 ti.size | none => false) = true := by kernel_rfl
    rw [h1] at h3
    exact h3
  have h4 : setL cs j [.int .u8 Z] = some (cs.set j (.int .u8 Z)) := by
    rw [setL_eq]
    have : ∀ (cs : List AV) (o : Nat) (v : AV), o < cs.length → setL0 cs o [v] = some (cs.set o v) := fun cs => by
      induction cs with
      | nil => intro o v h; simp at h
      | cons c cs ih =>
        intro o v h
        cases o with
        | zero => rfl
        | succ o =>
          show (match setL0 cs o [v] with | some r => some (c :: r) | none => none) = _
          rw [ih o v (by simpa using h)]; rfl
    exact this cs j _ hj
  simp only [aStore, hS, h1, h2, cond_true, h4]
def Cells (n : Nat) (cs : List AV) : Prop := cs.length = n ∧ ∀ c, c ∈ cs → ∃ z, c = .int .u8 z
theorem cells0 {l : List Nat} : Cells l.length (l.map cellU) := ⟨by simp, fun c hc => by
  obtain ⟨x, _, rfl⟩ := List.mem_map.1 hc
  exact ⟨_, rfl⟩⟩
def RB (rows : Nat → AO) (n L k : Nat) (R W W2 O : AO) (cs : List AV) (r : Exit × AFr × ASt) : Prop :=
  (k < L ∧ ∃ cs', Cells L cs' ∧ Stops 42 .normal (fr9 n L (k + 1)) (st5 L R rows W W2 (.cells cs' true) O) r) ∨ (k = L ∧ Stops 42 (.exit 2) (fr9 n L k) (st5 L R rows W W2 (.cells cs true) O) r)
section
variable {ps : List PV} {rows : Nat → AO} {n L k : Nat} {R W W2 O : AO}
theorem roundB {cs : List AV} (hL : L ≤ 1000000) (hk : k ≤ L) (hc : Cells L cs) : Trip Try.prog 42 none L3b (fr9 n L k) (st5 L R rows W W2 (.cells cs true) O) (RB rows n L k R W W2 O cs) := by
  have fin : ∀ {z : Int} {b2 : AO} {ys}, (tR n L k z R rows W W2 (.cells cs true) b2 O).allY (fun r => RB rows n L k R W W2 O cs (canR [0, 2, 3, 4, 8, 9, 10, 11, 12] ko5 r)) ys →
      Trip Try.prog 42 none L3b (fr9 n L k) (st5 L R rows W W2 (.cells cs true) O) (RB rows n L k R W W2 O cs) := fun h =>
    (Trip.runY E3ok noSum_ok h).mono fun r hr => hr.imp (fun ⟨h1, cs', h2, h3⟩ => ⟨h1, cs', h2, h3.can⟩) (fun h => ⟨h.1, h.2.can⟩)
  have hlen : ∀ S : ASt, aBuiltinM E3 .len [25] [.slice (some (88, 0)) L (.rest 1)] S = some (nI L, S) := fun S => by kernel_rfl
  by_cases e : k < L
  · have hk2 : k < cs.length := by rw [hc.1]; exact e
    obtain ⟨z, hz⟩ := hc.2 cs[k] (List.getElem_mem hk2)
    have hI : ∀ S : ASt, still S (aIndexAddr E3 25 (.slice (some (88, 0)) L (.rest 1)) (.int .i64 (.ofNat k))) = some (.ptr (some (88, k)), S) := fun S => by
      have := idx_at (E := E3) (t := 25) (i := 88) (o := 0) (n := L) (c := .rest 1) (kd := .i64) tl25 e
      rw [Nat.zero_add, Nat.mul_one] at this
      exact still_of this
    refine fin (z := z) (b2 := .cells (cs.set k (.int .u8 (wrapF .u8 (z + .ofNat 1)))) true) (Eq.mp (vcVR n L k z R rows W W2 (.cells cs true) (.cells (cs.set k (.int .u8 (wrapF .u8 (z + .ofNat 1)))) true) O (RB rows n L k R W W2 O cs)) ⟨hlen _, ifB_mk (fun _ => ⟨hI _, ?_, hI _, ?_, ?_⟩) fun h => ?_⟩)
    · exact load_at (cs := cs) (rw := true) tc5 (by kernel_rfl) (by rw [List.getElem?_eq_getElem hk2, hz])
    · rw [tstore5 (cs := cs) (by kernel_rfl) hk2]
      kernel_rfl
    · refine .inl ⟨e, cs.set k (.int .u8 (wrapF .u8 (z + .ofNat 1))), ⟨by rw [List.length_set]; exact hc.1, fun c hc' => ?_⟩, rfl, ?_⟩
      · rcases List.mem_or_eq_of_mem_set hc' with h | h
        · exact hc.2 c h
        · exact ⟨_, h⟩
      · rw [show (Int.ofNat k + Int.ofNat 1) = Int.ofNat (k + 1) from rfl, wrap_nat (by omega)]
        exact Wk.refl _ _ _
    · rw [ltF_nn] at h
      simp [e] at h
  · have ek : k = L := by omega
    refine fin (z := 0) (b2 := .dead) (Eq.mp (vcVR n L k 0 R rows W W2 (.cells cs true) .dead O (RB rows n L k R W W2 O cs)) ⟨hlen _, ifB_mk (fun h => ?_) fun _ => .inr ⟨ek, rfl, Wk.refl _ _ _⟩⟩)
    rw [ltF_nn] at h
    simp [e] at h
theorem loopB {cs : List AV} (hL : L ≤ 1000000) (hc : Cells L cs) : Trip Try.prog 42 none (.block 2 (.loop L3b)) (fr9 n L 0) (st5 L R rows W W2 (.cells cs true) O) fun r => ∃ cs', Stops 42 .normal (fr9 n L L) (st5 L R rows W W2 (.cells cs' true) O) r := by
  refine Trip.block (Trip.loop (fun m fr st => ∃ k cs, k ≤ L ∧ m = L - k ∧ Cells L cs ∧ fr = fr9 n L k ∧ st = st5 L R rows W W2 (.cells cs true) O) ?_ L ⟨0, cs, by omega, by omega, hc, rfl, rfl⟩)
  rintro m fr st ⟨k, cs, hk, rfl, hC, rfl, rfl⟩
  refine (roundB hL hk hC).mono ?_
  rintro ⟨e, fr', st'⟩ (⟨h1, cs', h2, h3, h4⟩ | ⟨h1, h3, h4⟩)
  · simp only at h3
    subst h3
    exact ⟨L - (k + 1), _, _, by omega, h4, k + 1, cs', by omega, rfl, h2, rfl, rfl⟩
  · simp only at h3
    subst h3
    subst h1
    exact ⟨fun _ => ⟨cs, rfl, h4⟩, fun h => absurd rfl h⟩
def LawQ (r : Exit × AFr × ASt) : Prop := (r.1 = .normal ∨ r.1 = .ret) ∧ ans (leaveA E3 Try.f3 r.2.1 r.2.2) = some (.bool true)
def done2 (q : Exit × Option AV) : Prop := (q.1 = .normal ∨ q.1 = .ret) ∧ q.2 = some (.bool true)
theorem outQ {r : Exit × AFr × ASt} (h : done2 (r.1, ans (leaveA E3 Try.f3 r.2.1 r.2.2))) : LawQ r := h
theorem retQ : ∀ r : Exit × AFr × ASt, r.1 = .ret → done2 (.ret, ans (leaveA E3 Try.f3 r.2.1 r.2.2)) → LawQ r := fun r h1 h2 => ⟨.inr h1, h2.2⟩
theorem shape1 : dropC 3 c3 = .seq (.seq (seqL (seqL (dropC 3 c3))) (.block 0 (.loop L3))) d3 := by kernel_rfl
theorem shape2 : dropC 3 d3 = .seq (.seq (seqL (seqL (dropC 3 d3))) (.block 2 (.loop L3b))) (dropC 4 d3) := by kernel_rfl
theorem putHere (C : CameQ ps rows) (hb : ∀ p, p ∈ ps → p.b.length ≤ 20000) {S : ASt} {c : List Nat} (hS : S = stw ps rows c) {v : AV} {S' : ASt} (hv : v = .ptr (some (85, 0)))
    (hS' : S' = outS (fun j => 43 + j) [(42, wr (VcA 86 (putF ps).1) (putF ps).2), (43, Bc (putF ps).1)] (stw ps rows c) 87) : Call1 Try.prog 13 [argL ps.length] S (v, S') := by
  subst hS; subst hv; subst hS'
  exact putAny C hb (get_zero (by kernel_rfl)) fun i hi => get_row (by kernel_rfl) (by have := C.len; omega)
theorem lawBad (C : CameQ ps rows) (hb : ∀ p, p ∈ ps → p.b.length ≤ 20000) {c : List Nat} (h : (putF ps).2 = true) : Trip Try.prog 42 none d3 (fr3 ps.length ps.length (Vw c) false) (stw ps rows c) LawQ := by
  have hp : Call1 Try.prog 13 [.slice (some (0, 0)) ps.length (.atl ps.length)] (vcVCb_s0 (RP ps) rows (Bc c)) (.ptr (some (85, 0)), vcVCb_s1 (RP ps) rows (VcA 86 (putF ps).1) (Bc c) (Bc (putF ps).1)) := putHere C hb (c := c) (by kernel_rfl) rfl (by rw [h]; kernel_rfl)
  refine Trip.preM E3ok (q3_one hp) (fn := Try.f3) (k := 2) (kf := [0]) (ko := ko5) (Q1 := fun _ => False) (Q2 := done2) (by kernel_rfl)
    (Eq.mp (vcVCb (q3 _) ps.length (RP ps) rows (Vw c) (VcA 86 (putF ps).1) (Bc c) (Bc (putF ps).1) (fun _ => False) done2) ⟨at_tab rfl (by kernel_rfl), at_known, .inr rfl, rfl⟩) (fun F S h => h.elim) retQ (fun r _ _ h => h.elim)
theorem lawNil (C : CameQ ps rows) (hb : ∀ p, p ∈ ps → p.b.length ≤ 20000) (h : putF ps = ([], false)) : Trip Try.prog 42 none d3 (fr3 ps.length ps.length nilV true) (stw ps rows []) LawQ := by
  have hp : Call1 Try.prog 13 [.slice (some (0, 0)) ps.length (.atl ps.length)] (vcVCn_s0 (RP ps) rows) (.ptr (some (85, 0)), vcVCn_s1 (RP ps) rows) := putHere C hb (c := []) (by kernel_rfl) rfl (by rw [h]; kernel_rfl)
  exact (Trip.runY E3ok (q3_one hp) (Eq.mp (vcVCn (q3 _) ps.length (RP ps) rows done2) ⟨at_tab rfl (by kernel_rfl), at_known, .inr rfl, rfl⟩)).mono fun r hr => outQ hr
theorem bytesL_U : ∀ l : List Nat, (∀ x, x ∈ l → x < 256) → bytesL (l.map cellU) = some l
  | [], _ => rfl
  | x :: t, h => by
    show (match bytesL (t.map cellU) with | some l => some (x % 256 :: l) | none => none) = _
    rw [bytesL_U t (fun y hy => h y (List.mem_cons_of_mem _ hy))]
    simp only [Nat.mod_eq_of_lt (h x List.mem_cons_self)]
theorem conv3 {S : ASt} {i : Nat} {c : Cap} {l : List Nat} {rw : Bool} (h : S.h.get i = some (.cells (l.map cellU) rw)) (hb : ∀ x, x ∈ l → x < 256) : aConvert E3 25 9 (.slice (some (i, 0)) l.length c) S = some (.str l, S) := by
  have e : aConvert E3 25 9 (.slice (some (i, 0)) l.length c) S = (match S.h.get i with
    | some (.cells cs _) => match takeL cs 0 l.length with | some l => (match bytesL l with | some b => some (.str b, S) | none => none) | none => none
    | _ => none) := by kernel_rfl
  rw [e]
  simp only [h, takeU, bytesL_U l hb]
theorem eqS3 {S : ASt} (x y : Nat) (a : List Nat) : still S (aBin E3 .eql 9 (.tmp x) (.tmp y) (.str a) (.str a)) = some (.bool true, S) := by
  have e : aBin E3 .eql 9 (.tmp x) (.tmp y) (.str a) (.str a) = some (.bool true) := by
    show some (AV.bool (lEq a a)) = _
    rw [lEq_eq]; simp
  rw [e]; rfl
theorem lawGood (C : CameQ ps rows) (hb : ∀ p, p ∈ ps → p.b.length ≤ 20000) {c : List Nat} (h : putF ps = (c, false)) (h0 : c ≠ []) (hc : c.length ≤ 1000000) (hB : ∀ x, x ∈ c → x < 256) : Trip Try.prog 42 none d3 (fr3 ps.length ps.length (Vw c) true) (stw ps rows c) LawQ := by
  have hl : 0 < c.length := List.length_pos_iff.2 h0
  have hV : Vw c = .slice (some (42, 0)) c.length (.rest 1) := by cases c with | nil => exact absurd rfl h0 | cons y c => rfl
  have hW : Bc c = .cells (c.map cellU) true := by cases c with | nil => exact absurd rfl h0 | cons y c => rfl
  have hA : VcA 86 c = .slice (some (86, 0)) c.length (.rest 1) := by cases c with | nil => exact absurd rfl h0 | cons y c => rfl
  have hS : stw ps rows c = stL (RP ps) rows (.cells (c.map cellU) true) := by unfold stw; rw [hW]
  have hp : Call1 Try.prog 13 [.slice (some (0, 0)) ps.length (.atl ps.length)] (vcVCr_s0 (RP ps) rows (.cells (c.map cellU) true)) (.ptr (some (85, 0)), vcVCr_s1 c.length (RP ps) rows (.cells (c.map cellU) true) (.cells (c.map cellU) true)) :=
    putHere C hb (c := c) (by rw [hS]; kernel_rfl) rfl (by rw [h, hS]; show _ = outS (fun j => 43 + j) [(42, wr (VcA 86 c) false), (43, Bc c)] _ 87; rw [hA, hW]; kernel_rfl)
  rw [hV, hS]
  have at0 : ∀ {S : ASt} {i j : Nat}, S.h.get i = some (.cells [] true) → S.h.get j = some (.cells (c.map cellU) true) → aBuiltinM E3 .append [25, 25] [.slice (some (i, 0)) 0 (.known 0), .slice (some (j, 0)) c.length (.rest 1)] S = some (.slice (some (S.next, 0)) c.length (.rest 1), S.add (.cells (c.map cellU) true)) := fun {S i j} hi hj => by
    have := append_full_at (l := 0) (i := i) (o := 0) (n := c.length) (new := c.map cellU) (old := []) (st := S) tp (x := .slice (some (j, 0)) c.length (.rest 1)) rfl (first_at hj (by rw [Nat.mul_one]; exact takeU)) (first_at hi (by kernel_rfl)) hl (by omega) (by omega)
    rw [Nat.zero_add, List.nil_append] at this
    exact this
  refine Trip.preM E3ok (q3_one hp) (fn := Try.f3) (k := 3) (kf := [0, 2, 3, 4, 8, 9, 10, 11]) (ko := ko5) (Q1 := fun r => r = (.normal, fr8 ps.length c.length, st5 c.length (RP ps) rows (.cells (c.map cellU) true) (.cells (c.map cellU) true) (.cells (c.map cellU) true) (.cells (c.map cellU) true))) (Q2 := done2) (by kernel_rfl)
    (Eq.mp (vcVCr (q3 _) ps.length c.length (RP ps) rows (.cells (c.map cellU) true) (.cells (c.map cellU) true) (.cells (c.map cellU) true) (.cells (c.map cellU) true) (fun r => r = (.normal, fr8 ps.length c.length, st5 c.length (RP ps) rows (.cells (c.map cellU) true) (.cells (c.map cellU) true) (.cells (c.map cellU) true) (.cells (c.map cellU) true))) done2)
      ⟨at_tab rfl (by kernel_rfl), (at0 (by kernel_rfl) (by kernel_rfl)).trans (by kernel_rfl), (append_nil_at tp (n := c.length) (new := c.map cellU) (by kernel_rfl) (first_at (cs := c.map cellU) (rw := true) (by kernel_rfl) (by rw [Nat.mul_one]; exact takeU)) hl (by omega) (by omega)).trans (by kernel_rfl), by kernel_rfl⟩) ?_ retQ (fun r h1 _ h => absurd (congrArg Prod.fst h) h1)
  rintro F S hq
  cases hq
  rw [shape2]
  refine Trip.seq (R := fun r => ∃ cs', Stops 42 .normal (fr9 ps.length c.length c.length) (st5 c.length (RP ps) rows (.cells (c.map cellU) true) (.cells (c.map cellU) true) (.cells cs' true) (.cells (c.map cellU) true)) r)
    (Trip.seq (R := Stops 42 .normal (fr9 ps.length c.length 0) (st5 c.length (RP ps) rows (.cells (c.map cellU) true) (.cells (c.map cellU) true) (.cells (c.map cellU) true) (.cells (c.map cellU) true)))
      ((Trip.runY E3ok noSum_ok (Eq.mp (vcVI ps.length c.length (RP ps) rows (.cells (c.map cellU) true) (.cells (c.map cellU) true) (.cells (c.map cellU) true) (.cells (c.map cellU) true) (Stops 42 .normal (fr9 ps.length c.length 0) (st5 c.length (RP ps) rows (.cells (c.map cellU) true) (.cells (c.map cellU) true) (.cells (c.map cellU) true) (.cells (c.map cellU) true)))) ⟨rfl, Wk.refl _ _ _⟩)).mono fun r hr => Stops.can hr)
      (fun fr' st' hq => Trip.less hq.2 (loopB hc cells0)) (fun e fr' st' hne hq => absurd hq.1 hne)) (fun fr' st' hq => ?_) (fun e fr' st' hne hq => ?_)
  · obtain ⟨cs', hq⟩ := hq
    refine Trip.less hq.2 ((Trip.runY E3ok (q3_ok (tab := []) (fun e he => by cases he)) (Eq.mp (vcVE (q3 []) ps.length c.length c (RP ps) rows (.cells (c.map cellU) true) (.cells (c.map cellU) true) (.cells cs' true) (.cells (c.map cellU) true) (.cells (c.map cellU) true) done2)
      ⟨(at0 (by kernel_rfl) (by kernel_rfl)).trans (by kernel_rfl), conv3 (rw := true) (by kernel_rfl) hB, conv3 (rw := true) (by kernel_rfl) hB, eqS3 _ _ _, conv3 (rw := true) (by kernel_rfl) hB, conv3 (rw := true) (by kernel_rfl) hB, eqS3 _ _ _, at_known, .inr rfl, rfl⟩)).mono fun r hr => outQ hr)
  · obtain ⟨cs', hq⟩ := hq
    exact absurd hq.1 hne
theorem bsB {sh : List Nat} {n : Nat} : ∀ x, x ∈ bs sh n → x < 256 := fun x hx => by
  obtain ⟨i, _, rfl⟩ := List.mem_map.1 hx
  exact Nat.mod_lt _ (by decide)
def AllB (l : List Nat) : Prop := ∀ x, x ∈ l → x < 256
theorem ab_bif {b : Bool} {l l' : List Nat} (h : AllB l) (h' : AllB l') : AllB (bif b then l else l') := by cases b <;> assumption
theorem ab_nil : AllB [] := fun x h => by cases h
theorem ab_app {l l' : List Nat} (h : AllB l) (h' : AllB l') : AllB (l ++ l') := fun x hx => (List.mem_append.1 hx).elim (h x) (h' x)
theorem ab_one {a : Nat} (h : a < 256) : AllB [a] := fun x hx => by
  rw [List.mem_singleton] at hx; subst hx; exact h
theorem refAll {p : PV} (h : AllB p.b) : AllB (refB p) :=
  ab_bif (ab_bif bsB (ab_bif bsB (ab_bif bsB (ab_bif bsB ab_nil)))) (ab_bif (ab_one (by cases eqF (Int.tmod (.ofNat p.n) (.ofNat 2)) (.ofNat 1) <;> decide)) (ab_bif h (ab_bif (ab_app bsB h) (ab_bif (ab_one (by
    show modN p.sz 256 < 256
    cases p.sz with
    | ofNat a => exact Nat.mod_lt _ (by decide)
    | negSucc a => exact Nat.lt_of_le_of_lt (Nat.sub_le _ _) (by decide))) (ab_bif (fun x hx => by
    obtain ⟨i, _, rfl⟩ := List.mem_map.1 hx
    rw [List.getD_eq_getElem?_getD]
    cases e : p.b[i]? with
    | none => decide
    | some y => exact h y (List.mem_of_getElem? e)) ab_nil)))))
theorem wantAll : ∀ (ps : List PV) (s : List Nat × Bool), AllB s.1 → (∀ p, p ∈ ps → AllB p.b) → AllB (ps.foldl stepG s).1
  | [], s, h, _ => h
  | p :: ps, s, h, hp => by
    rw [List.foldl_cons]
    exact wantAll ps _ (ab_app h (refAll (hp p List.mem_cons_self))) fun q hq => hp q (List.mem_cons_of_mem _ hq)
theorem wantLen : ∀ (ps : List PV) (s : List Nat × Bool), (∀ p, p ∈ ps → p.b.length ≤ 20000) → (ps.foldl stepG s).1.length ≤ s.1.length + ps.length * 20300
  | [], s, _ => by simp
  | p :: ps, s, hp => by
    rw [List.foldl_cons]
    have h1 := wantLen ps (stepG s p) fun q hq => hp q (List.mem_cons_of_mem _ hq)
    have h2 := refLen (p := p)
    have h3 := hp p List.mem_cons_self
    have h4 : (stepG s p).1.length = s.1.length + (refB p).length := by show (s.1 ++ refB p).length = _; rw [List.length_append]
    rw [List.length_cons, Nat.add_mul]
    omega
theorem body3 (C : CameN ps rows n) : Trip Try.prog 42 none c3 (F3 n) (stB (RP ps) rows) LawQ := by
  have hm := muchAny C
  cases hb : muchB ps n with
  | true =>
    rw [hb] at hm
    have hm' : Call1 Try.prog 10 [.slice (some (0, 0)) n (.atl n)] (vcVAt_s0 (RP ps) rows) (.bool true, vcVAt_s0 (RP ps) rows) := by
      have e : vcVAt_s0 (RP ps) rows = stB (RP ps) rows := by kernel_rfl
      rw [e]; exact hm
    exact Trip.preM E3ok (q3_one hm') (fn := Try.f3) (k := 3) (kf := [0, 2, 3, 4]) (ko := ko5) (Q1 := fun _ => False) (Q2 := done2) (by kernel_rfl)
      (Eq.mp (vcVAt (q3 _) n (RP ps) rows (fun _ => False) done2) ⟨at_tab rfl (by kernel_rfl), at_known, .inr rfl, rfl⟩) (fun F S h => h.elim) retQ (fun r _ _ h => h.elim)
  | false =>
    obtain ⟨hn, hlen⟩ := few_of C hb
    subst hn
    rw [hb] at hm
    have hm' : Call1 Try.prog 10 [.slice (some (0, 0)) ps.length (.atl ps.length)] (vcVAf_s0 (RP ps) rows) (.bool false, vcVAf_s0 (RP ps) rows) := by
      have e : vcVAf_s0 (RP ps) rows = stB (RP ps) rows := by kernel_rfl
      rw [e]; exact hm
    refine Trip.preM E3ok (q3_one hm') (fn := Try.f3) (k := 3) (kf := [0, 2, 3, 4]) (ko := ko5) (Q1 := fun r => r = (.normal, xFr [(0, argL ps.length), (2, .bool false), (3, nilV), (4, .bool true)] 103, stB (RP ps) rows)) (Q2 := done2) (by kernel_rfl)
      (Eq.mp (vcVAf (q3 _) ps.length (RP ps) rows (fun r => r = (.normal, xFr [(0, argL ps.length), (2, .bool false), (3, nilV), (4, .bool true)] 103, stB (RP ps) rows)) done2) ⟨at_tab rfl (by kernel_rfl), by kernel_rfl⟩) ?_ retQ (fun r h1 _ h => absurd (congrArg Prod.fst h) h1)
    rintro F S hq
    cases hq
    rw [shape1]
    have h41 := C.len
    have hw := wantLen ps ([], true) hlen
    have hcl : (wantF ps).1.length ≤ 1000000 := by
      have : (wantF ps).1.length ≤ ([] : List Nat).length + ps.length * 20300 := hw
      simp only [List.length_nil] at this
      omega
    have hab : AllB (wantF ps).1 := wantAll ps ([], true) ab_nil fun p hp => C.byte p hp
    refine Trip.seq (R := Stops 42 .normal (fr3 ps.length ps.length (Vw (wantF ps).1) (wantF ps).2) (stw ps rows (wantF ps).1)) (Trip.seq (R := Stops 42 .normal (fr3 ps.length 0 nilV true) (stw ps rows []))
      ((Trip.runY E3ok noSum_ok (Eq.mp (vcVB ps.length (RP ps) rows (Stops 42 .normal (fr3 ps.length 0 nilV true) (stw ps rows []))) ⟨rfl, ?_⟩)).mono fun r hr => Stops.can hr) (fun fr' st' hq => Trip.less hq.2 (loop3 C.toCameP hlen)) (fun e fr' st' hne hq => absurd hq.1 hne)) (fun fr' st' hq => Trip.less hq.2 ?_) (fun e fr' st' hne hq => absurd hq.1 hne)
    · have hs : StP (ids3 42) (stB (RP ps) rows) ((0, RP ps) :: ((List.range 41).map (fun j => (j + 1, rows j)) ++ [(42, .dead)])) :=
        .cons 0 (RP ps) (ids3_at (by omega)) base_zero (RenO.keep (by kernel_rfl) C.refs) (stp_rows (S := stB (RP ps) rows) (fun j hj => ids3_at hj) (fun j hj => (base_row (R := RP ps) hj : (stB (RP ps) rows).h.get (j + 1) = some (rows j))) C.came (.dead (j := 42) (by simp [ids3]) .nil) _ fun j hj => List.mem_range.1 hj)
      have hf : frE (ids3 42) (fr3 ps.length 0 nilV true) [0, 2, 3, 4, 5] = some [(0, .slice (some (0, 0)) ps.length (.atl ps.length)), (2, .bool false), (3, nilV), (4, .bool true), (5, nI 0)] := by kernel_rfl
      have h := Wk.heldX (kb := 42) (ids3 42) (by kernel_rfl) (by kernel_rfl) [0, 2, 3, 4, 5] hf hs
      have e : (0, RP ps) :: ((List.range 41).map (fun j => (j + 1, rows j)) ++ [(42, .dead)]) = base (RP ps) rows ++ [(42, .dead)] := by rw [base_eq]; rfl
      have e2 : (ids3 42).length = 43 := by simp [ids3]
      rw [e, e2] at h
      exact h
    · cases hg : (wantF ps).2 with
      | false => exact lawBad C.toCameQ hlen (put_bad hg)
      | true =>
        have hp := put_good hg
        by_cases h0 : (wantF ps).1 = []
        · rw [h0] at hp ⊢
          exact lawNil C.toCameQ hlen hp
        · exact lawGood C.toCameQ hlen hp h0 hcl hab
theorem lawSome (C : CameN ps rows n) : AtMem Try.prog 3 [argL n] (stB (RP ps) rows) (.bool true) := by
  refine AtMem.of_trip E3ok (fn := Try.f3) (by kernel_rfl) (c := c3) (by kernel_rfl) (by kernel_rfl) ?_
  have hfr : ({ m := putArgs [argL n] 0 .e, n := Try.f3.ntmps, defs := [] } : AFr) = F3 n := by kernel_rfl
  rw [hfr]
  exact body3 C
theorem E4ok : Env.Ok Try.prog E4 := envEx_ok (xs := []) ⟨⟨Try.func3, Try.call3⟩, ⟨Try.func10, Try.call10⟩, ⟨Try.func13, Try.call13⟩, ⟨Try.func14, Try.call14⟩, ⟨Try.func15, Try.call15⟩, ⟨Try.func47, Try.call47⟩, trivial⟩ trivial (by kernel_rfl)
theorem law0 : AtMem Try.prog 3 [.slice none 0 (.known 0)] (mkSt [(0, .dead)] 1) (.bool true) := AtMem.of_tm E4ok (onlyC_ok kC_ok) (Eq.mp (vcVZ0 kC (fun r => r.1 = .bool true)) ⟨call_at (onlyC_at rfl rfl), rfl⟩)
theorem law1 : AtMem Try.prog 3 [.slice0] (mkSt [(0, .dead)] 1) (.bool true) := AtMem.of_tm E4ok (onlyC_ok kC_ok) (Eq.mp (vcVZ1 kC (fun r => r.1 = .bool true)) ⟨call_at (onlyC_at rfl rfl), rfl⟩)
end
end Go.Proofs.Ytlnohbilfogheaa.wwr
end

section
open Go Go.Ax Go.Proofs.Ytlnohbilfogheaa
namespace Go.Proofs.Ytlnohbilfogheaa.wwr
set_option linter.unusedVariables false
noncomputable section
open Go.ChangeShapes Go.WideShapes Go.ChangeAt Go.RowKit Go.Deep
section
variable {H : Type} {enc : TypeId × Value → H} {P : Program} {w : World} {base : Nat} {spare : Nat → Bool} {held : Bool} {fuel : Nat} {t : TypeId} {cs : List Value} {x : DataW H × List MemPlace}
theorem fieldOf {fs : Array Field} (ht : P.underlying t = some (.struct fs)) (h : DataW.trod enc P w base spare held fuel t cs = some x) {i : Nat} {f : Field} (hi : fs[i]? = some f) :
    ∃ n y, DataW.trod enc P w base spare held n f.type ((cs.drop f.offset).take (P.cellsOf f.type)) = some y := by
  obtain ⟨xs, n, _, _, _, hl, hf⟩ := DataW.trod_struct ht h
  have h1 := (Array.getElem?_eq_some_iff.1 hi).1
  exact ⟨n, xs[i]'(by omega), by rw [hf i f hi]; simp⟩
theorem elemOf {n : Nat} {e : TypeId} (ht : P.underlying t = some (.array n e)) (h : DataW.trod enc P w base spare held fuel t cs = some x) {i : Nat} (hi : i < n) :
    ∃ m y, DataW.trod enc P w base spare held m e ((cs.drop (i * P.cellsOf e)).take (P.cellsOf e)) = some y := by
  obtain ⟨xs, m, _, _, _, hl, hf⟩ := DataW.trod_array ht h
  exact ⟨m, xs[i]'(by omega), by rw [hf i hi]; simp⟩
theorem one_int {k : IntKind} {o : Nat} (ht : P.underlying t = some (.int k)) (h : DataW.trod enc P w base spare held fuel t ((cs.drop o).take 1) = some x) : ∃ z, cs[o]? = some (.int k z) ∧ (Lit.int k z).wf = true := by
  obtain ⟨z, e, _, hw⟩ := DataW.trod_int ht h
  refine ⟨z, ?_, hw⟩
  have : ((cs.drop o).take 1)[0]? = some (.int k z) := by rw [e]; rfl
  simpa using this
end
theorem own : ownKnob Try.prog.godebug = none := by kernel_rfl
theorem laidOut : laidOutB Try.prog = true := by kernel_rfl
theorem same_below {W W' : World} (h : Below W.heap.size W W') {p : MemPlace} (hp : p.block < W.heap.size) : W.sameAt W' p := by
  cases p with
  | cell b off => exact h.cell (p := ⟨b, off, none⟩) hp
  | map b => exact h.block b hp
theorem spot_none {W : World} {a : Addr} {v : Value} (h : W.cell? (a.add 0) = some v) : a.spot = none := by
  obtain ⟨b, off, spot⟩ := a
  cases spot with
  | none => rfl
  | some s =>
    unfold World.cell? at h
    simp only [Addr.add, if_true] at h
    split at h
    · simp at h
    · cases h
theorem arg_nil {W : World} (i : Nat) : ∃ (l : List Nat) (vl : AV) (o : AO) (r : Option (Nat × Nat × List AV)), (∀ x, x ∈ l → x < 256) ∧ ArgB i vl o l ∧ ArgAt E3 W 25 1 i l.length (.slice none 0 0) (l.map cellU) vl o r :=
  ⟨[], _, _, _, (fun x h => by cases h), .nil, ArgAt.mk_nil tl25⟩
theorem arg_bytes {W : World} (j : Nat) {a : Addr} {len cap : Nat} {B : Nat → Nat} (hl : len ≤ cap) (hi : ∀ i, i < len → W.cell? (a.add i) = some (.int .u8 (.ofNat (B i))) ∧ B i < 256) :
    ∃ (l : List Nat) (vl : AV) (o : AO) (r : Option (Nat × Nat × List AV)), (∀ x, x ∈ l → x < 256) ∧ ArgB j vl o l ∧ ArgAt E3 W 25 1 j l.length (.slice (some a) len cap) (l.map cellU) vl o r := by
  by_cases h0 : len = 0
  · subst h0
    exact ⟨[], _, _, _, (fun x h => by cases h), .zero, ArgAt.mk_zero tl25⟩
  · have hsp := spot_none (hi 0 (by omega)).1
    obtain ⟨b, off, spot⟩ := a
    simp only at hsp
    subst hsp
    have hlen : ((List.range len).map B).length = len := by simp
    have hne : (List.range len).map B ≠ [] := fun e => by rw [e] at hlen; simp at hlen; omega
    have hB := ArgB.row (i := j) hne
    rw [hlen] at hB
    refine ⟨(List.range len).map B, .slice (some (j, 0)) len (.atl len), .cells (((List.range len).map B).map cellU) false, some (b, off, ((List.range len).map B).map cellU), fun x hx => ?_, hB, ?_⟩
    · obtain ⟨i, hi', rfl⟩ := List.mem_map.1 hx
      exact (hi i (by simpa using hi')).2
    rw [hlen]
    have := ArgAt.mk_row (E := E3) (W := W) (t := 25) (z := 1) (i := j) (n := len) (b := b) (off := off) (cap := cap) (cs := ((List.range len).map B).map cellU) tl25
      (by intro e; have := congrArg List.length e; simp at this; omega) hl (fun k v hk => ?_)
    · exact this
    · have hk2 : k < len := by
        have := (List.getElem?_eq_some_iff.1 hk).1
        simpa using this
      have hv : v = cellU (B k) := by
        simp [hk2] at hk
        exact hk.symm
      subst hv
      exact ⟨rfl, _, by have := (hi k hk2).1; rw [add_none] at this; exact this, fun ι => .int _ _⟩
theorem bytes_arg {H : Type} {enc : TypeId × Value → H} {W : World} {base fuel : Nat} {spare : Nat → Bool} {held : Bool} (j : Nat) {cs : List Value} {x : DataW H × List MemPlace}
    (hf : DataW.trod enc Try.prog W base spare held fuel 25 cs = some x) :
    ∃ v, cs = [v] ∧ ∃ (l : List Nat) (vl : AV) (o : AO) (r : Option (Nat × Nat × List AV)), (∀ x, x ∈ l → x < 256) ∧ ArgB j vl o l ∧ ArgAt E3 W 25 1 j l.length v (l.map cellU) vl o r ∧ l.length < 9223372036854775808 := by
  rcases open_ints Try.underlying25 Try.underlying5 (by kernel_rfl) hf with ⟨hcs, _⟩ | ⟨a, len', cap', zs, hcs, _, hl, hmx, hm, _, hi, hw⟩
  · obtain ⟨l, vl, o, r, h1, h2, h3⟩ := arg_nil (W := W) j
    refine ⟨_, hcs, [], _, _, _, (fun x h => by cases h), .nil, ArgAt.mk_nil tl25, by decide⟩
  · refine ⟨_, hcs, ?_⟩
    obtain ⟨l, vl, o, r, h1, h2, h3⟩ := arg_bytes (W := W) j (a := a) (len := len') (cap := cap') (B := fun i => (zs.getD i 0).toNat) hl fun i hlt => by
      have hlz : i < zs.length := by rw [hm]; split <;> omega
      have h1 := hi i hlz
      have h2 := hw (zs.getD i 0) (by rw [List.getD_eq_getElem?_getD, List.getElem?_eq_getElem hlz]; exact List.getElem_mem hlz)
      have h3 : 0 ≤ zs.getD i 0 ∧ zs.getD i 0 ≤ 255 := by
        simp only [Lit.wf, Bool.and_eq_true, decide_eq_true_eq] at h2
        exact h2
      refine ⟨?_, by omega⟩
      rw [h1]
      congr 2
      show zs.getD i 0 = Int.ofNat (zs.getD i 0).toNat
      have := Int.toNat_of_nonneg h3.1
      exact this.symm
    have hlen : l.length ≤ len' := by
      have hv := h3.vr (fun _ => r.map fun q => ⟨q.1, q.2.1, 0⟩) (fun q hq => ⟨0, by simp [hq]⟩)
      cases h2 with
      | nil => exact Nat.zero_le _
      | zero => exact Nat.zero_le _
      | row _ => cases hv; exact Nat.le_refl _
    exact ⟨l, vl, o, r, h1, h2, h3, by have : maxLen = 9223372036854775807 := rfl; omega⟩
theorem law_at {P : Program} {f : Nat} {args : List AV} {args' : Array Value} {B : Prot} (hB : ∀ i, ¬ B.rs i) {W : World} (hall : ∀ k, k < W.heap.size → B.all k) {ι : Ren} {st : ASt} (hsr : SR B W ι st W) (hv : VRs ι args args')
    (h : AtMem P f args st (.bool true)) : Calls P f args' W fun e w' => e = .returned (.bool true) ∧ Below W.heap.size W w' := by
  have := (h B W ι W args' hB hsr hv).2
  rw [callsIn_wide] at this
  refine this.mono ?_
  rintro e w' ⟨⟨v, st'⟩, hv, x, ι', rfl, _, h2, h3⟩
  simp only at hv h3
  subst hv
  cases h3
  exact ⟨rfl, h2.below.os, h2.below.tape, h2.below.output, h2.below.size, fun k hk => h2.below.block k (hall k hk)⟩
def RowV (W : World) (ι : Ren) (b off : Nat) (cs : List AV) : Prop := ∀ (k : Nat) v, cs[k]? = some v → v.isCell = true ∧ ∃ v', W.cell? ⟨b, off + k, none⟩ = some v' ∧ VR ι v v'
theorem RowV.block {W : World} {ι : Ren} {b off : Nat} {cs : List AV} (h : RowV W ι b off cs) (h0 : cs ≠ []) : ∃ c e lo hi, W.heap[b]? = some (.cells c e (lo, hi)) ∧ off + cs.length ≤ c.size ∧ ∀ (k : Nat) v v', cs[k]? = some v → c[off + k]? = some v' → VR ι v v' := by
  have hl : cs.length - 1 < cs.length := by cases cs with | nil => exact absurd rfl h0 | cons _ _ => simp
  obtain ⟨_, v', hv', _⟩ := h (cs.length - 1) _ (List.getElem?_eq_getElem hl)
  unfold World.cell? at hv'
  cases hb : W.heap[b]? with
  | none => rw [hb] at hv'; cases hv'
  | some o =>
    rw [hb] at hv'
    cases o with
    | cells c e m =>
      obtain ⟨lo, hi⟩ := m
      simp only [Option.isSome_none, Bool.false_eq_true, if_false] at hv'
      have hs := (Array.getElem?_eq_some_iff.1 hv').1
      refine ⟨c, e, lo, hi, rfl, by omega, fun k v v' hk hk' => ?_⟩
      obtain ⟨_, x, hx, hvr⟩ := h k v hk
      unfold World.cell? at hx
      rw [hb] at hx
      simp only [Option.isSome_none, Bool.false_eq_true, if_false] at hx
      rw [hk'] at hx
      simp only [Option.some.injEq] at hx
      subst hx
      exact hvr
    | _ => cases hv'
theorem RowV.of {W : World} {ι : Ren} {b off : Nat} {cs : List AV} (h : RowAt W b off cs) : RowV W ι b off cs := fun k v hk => by
  obtain ⟨h1, v', h2, h3⟩ := h k v hk
  exact ⟨h1, v', h2, h3 ι⟩
theorem rowsV_ok {W : World} (hgl : GlobOK W) {n : Nat} {rows : Nat → Option (Nat × Nat × List AV)} (hr : ∀ i r, rows i = some r → r.2.2 ≠ [] ∧ RowV W (rowsRen W n rows) r.1 r.2.1 r.2.2) {st : ASt} (hn : st.next = n)
    (hst : ∀ i a, st.h.get i = some a → i < n ∧ (a ≠ .dead → ∃ r, rows i = some r ∧ a = .cells r.2.2 false)) :
    SR ⟨fun k => ∃ i r, i < n ∧ rows i = some r ∧ r.1 = k, fun k => k < W.heap.size, fun _ => False⟩ W (rowsRen W n rows) st W := by
  have hloc : ∀ {i : Nat} {r : Nat × Nat × List AV}, i < n → rows i = some r → ∃ c e lo hi, W.heap[r.1]? = some (.cells c e (lo, hi)) ∧ rowsRen W n rows i = some ⟨r.1, r.2.1, c.size⟩ ∧ r.2.1 + r.2.2.length ≤ c.size ∧ ∀ (k : Nat) v v', r.2.2[k]? = some v → c[r.2.1 + k]? = some v' → VR (rowsRen W n rows) v v' := fun {i r} hi h => by
    obtain ⟨h0, h1⟩ := hr i r h
    obtain ⟨c, e, lo, hh, k1, k2, k3⟩ := h1.block h0
    exact ⟨c, e, lo, hh, k1, by simp only [rowsRen, hi, if_true, h, rowLoc, k1], k2, k3⟩
  refine ⟨Keeps.refl _ _, ?_, fun i a hi hd => ?_, fun i a L hi ho hL => ?_, fun i L hL => ?_, fun i a hi => ?_, fun i a L hi hd ho hL => ?_, fun i hi => hi.elim, fun g cs hg => ⟨.inr (hgl g cs hg).lt, hgl g cs hg⟩⟩
  · rintro k (⟨i, r, hi, h, rfl⟩ | hk)
    · obtain ⟨c, e, lo, hh, k1, _⟩ := hloc hi h
      exact (Array.getElem?_eq_some_iff.1 k1).1
    · exact hk
  · obtain ⟨hin, h2⟩ := hst i a hi
    obtain ⟨r, h1, rfl⟩ := h2 hd
    obtain ⟨c, e, lo, hh, k1, k2, k3, k4⟩ := hloc hin h1
    obtain ⟨_, hra⟩ := hr i r h1
    exact ⟨_, _, k2, k1, c, e, lo, hh, rfl, rfl, k3, fun v hv => by
      obtain ⟨j, hj, e⟩ := List.getElem_of_mem hv
      exact (hra j v (by rw [← e]; simp [hj])).1, fun k v v' hk hk' => k4 k v v' hk hk', fun h => by cases h⟩
  · by_cases hd : a = .dead
    · subst hd; cases ho
    · obtain ⟨r, _, rfl⟩ := (hst i a hi).2 hd
      cases ho
  · unfold rowsRen at hL
    by_cases e : i < n
    · rw [hn]; exact e
    · simp [e] at hL
  · rw [hn]; exact (hst i a hi).1
  · obtain ⟨hin, h2⟩ := hst i a hi
    obtain ⟨r, h1, rfl⟩ := h2 hd
    obtain ⟨c, e, lo, hh, k1, k2, k3, k4⟩ := hloc hin h1
    rw [k2] at hL; cases hL
    exact ⟨i, r, hin, h1, rfl⟩
theorem part_of {H : Type} {enc : TypeId × Value → H} {W : World} {base fuel : Nat} {spare : Nat → Bool} {held : Bool} {cs : List Value} {x : DataW H × List MemPlace} (j : Nat) (h : DataW.trod enc Try.prog W base spare held fuel 30 cs = some x) :
    ∃ q : (Int × Int × Nat × Value) × (List Nat × AV × AO × Option (Nat × Nat × List AV)), cs = [.int .i64 q.1.1, .int .i64 q.1.2.1, .int .u64 (.ofNat q.1.2.2.1), q.1.2.2.2] ∧ q.1.2.2.1 < 18446744073709551616 ∧
      (∀ x, x ∈ q.2.1 → x < 256) ∧ ArgB j q.2.2.1 q.2.2.2.1 q.2.1 ∧ ArgAt E3 W 25 1 j q.2.1.length q.1.2.2.2 (q.2.1.map cellU) q.2.2.1 q.2.2.2.1 q.2.2.2.2 := by
  have hlen : cs.length = 4 := by
    obtain ⟨_, _, _, _, hl, _⟩ := DataW.trod_struct Try.underlying30 h
    rw [hl]; kernel_rfl
  have c3' : Try.prog.cellsOf 3 = 1 := by kernel_rfl
  have c28 : Try.prog.cellsOf 28 = 1 := by kernel_rfl
  have c25 : Try.prog.cellsOf 25 = 1 := by kernel_rfl
  obtain ⟨n0, g0, k0⟩ := fieldOf Try.underlying30 h (i := 0) rfl
  obtain ⟨n1, g1, k1⟩ := fieldOf Try.underlying30 h (i := 1) rfl
  obtain ⟨n2, g2, k2⟩ := fieldOf Try.underlying30 h (i := 2) rfl
  obtain ⟨n3, g3, k3⟩ := fieldOf Try.underlying30 h (i := 3) rfl
  replace k0 : DataW.trod enc Try.prog W base spare held n0 3 ((cs.drop 0).take (Try.prog.cellsOf 3)) = some g0 := k0
  replace k1 : DataW.trod enc Try.prog W base spare held n1 3 ((cs.drop 1).take (Try.prog.cellsOf 3)) = some g1 := k1
  replace k2 : DataW.trod enc Try.prog W base spare held n2 28 ((cs.drop 2).take (Try.prog.cellsOf 28)) = some g2 := k2
  replace k3 : DataW.trod enc Try.prog W base spare held n3 25 ((cs.drop 3).take (Try.prog.cellsOf 25)) = some g3 := k3
  rw [c3'] at k0 k1
  rw [c28] at k2
  rw [c25] at k3
  obtain ⟨k, e0, _⟩ := one_int Try.underlying3 k0
  obtain ⟨sz, e1, _⟩ := one_int Try.underlying3 k1
  obtain ⟨N, e2, w2⟩ := one_int Try.underlying28 k2
  obtain ⟨v, e3, l, vl, o, r, b1, b2, b3, _⟩ := bytes_arg j k3
  have e3' : cs[3]? = some v := by
    have : ((cs.drop 3).take 1)[0]? = some v := by rw [e3]; rfl
    simpa using this
  have hN : 0 ≤ N ∧ N ≤ 18446744073709551615 := by
    simp only [Lit.wf, Bool.and_eq_true, decide_eq_true_eq] at w2
    exact w2
  have hNn : N = .ofNat N.toNat := (Int.toNat_of_nonneg hN.1).symm
  refine ⟨((k, sz, N.toNat, v), (l, vl, o, r)), ?_, by show N.toNat < _; omega, b1, b2, b3⟩
  show cs = [.int .i64 k, .int .i64 sz, .int .u64 (.ofNat N.toNat), v]
  rw [← hNn]
  match cs, hlen with
  | [x0, x1, x2, x3], _ =>
    simp at e0 e1 e2 e3'
    rw [e0, e1, e2, e3']
theorem argCell {j : Nat} {v : AV} {o : AO} {l : List Nat} (A : ArgB j v o l) : v.isCell = true := by cases A <;> rfl
theorem walk {W : World} {a : Addr} {len cap : Nat} (h0 : 0 < len) (hl : len ≤ cap)
    {q : Nat → (Int × Int × Nat × Value) × (List Nat × AV × AO × Option (Nat × Nat × List AV))}
    (hq : ∀ i, i < len → (∀ j x, [Value.int .i64 (q i).1.1, .int .i64 (q i).1.2.1, .int .u64 (.ofNat (q i).1.2.2.1), (q i).1.2.2.2][j]? = some x → W.cell? (a.add (i * 4 + j)) = some x) ∧ (q i).1.2.2.1 < 18446744073709551616 ∧
      (∀ x, x ∈ (q i).2.1 → x < 256) ∧ ArgB (i + 1) (q i).2.2.1 (q i).2.2.2.1 (q i).2.1 ∧ ArgAt E3 W 25 1 (i + 1) (q i).2.1.length (q i).1.2.2.2 ((q i).2.1.map cellU) (q i).2.2.1 (q i).2.2.2.1 (q i).2.2.2.2) :
    Calls Try.prog 3 #[.slice (some a) len cap] W fun e w' => e = .returned (.bool true) ∧ Below W.heap.size W w' := by
  have hgl : GlobOK W := by intro _ _ h; cases h
  have hsp := spot_none (a := a) (v := .int .i64 (q 0).1.1) ((hq 0 h0).1 0 _ rfl)
  obtain ⟨b, off, spot⟩ := a
  simp only at hsp
  subst hsp
  let m := min len 41
  have hm1 : m ≤ len := Nat.min_le_left _ _
  have hm2 : m ≤ 41 := Nat.min_le_right _ _
  have hm0 : 0 < m := by show 0 < min len 41; omega
  let pv : Nat → PV := fun i => ⟨(q i).1.1, (q i).1.2.1, (q i).1.2.2.1, (q i).2.2.1, (q i).2.1⟩
  let ps : List PV := (List.range m).map pv
  let rows : Nat → AO := fun i => if i < m then (q i).2.2.2.1 else .dead
  let rF : Nat → Option (Nat × Nat × List AV) := fun j => match j with
    | 0 => some (b, off, ps.flatMap enc)
    | i + 1 => if i < m then (q i).2.2.2.2 else none
  have hpl : ps.length = m := by simp [ps]
  have hps : ∀ i p, ps[i]? = some p → i < m ∧ p = pv i := fun i p hp => by
    have hi : i < m := by rw [← hpl]; exact (List.getElem?_eq_some_iff.1 hp).1
    refine ⟨hi, ?_⟩
    simp [ps, hi] at hp
    exact hp.symm
  have hne : ps.flatMap enc ≠ [] := fun e => by
    have := congrArg List.length e
    rw [fm_len enc_len, hpl] at this
    simp at this
    omega
  have hpart : ∀ i r, i < m → (q i).2.2.2.2 = some r → r.2.2 ≠ [] ∧ RowAt W r.1 r.2.1 r.2.2 := fun i r hi h => (hq i (by omega)).2.2.2.2.row r h
  have hrv : ∀ i, i < m → VR (rowsRen W 42 rF) (q i).2.2.1 (q i).1.2.2.2 := fun i hi => (hq i (by omega)).2.2.2.2.vr _ fun r hr =>
    rowsRen_at (i := i + 1) (by omega) (show rF (i + 1) = some r by show (if i < m then (q i).2.2.2.2 else none) = some r; rw [if_pos hi]; exact hr) (hpart i r hi hr).1 (hpart i r hi hr).2
  have hrow : ∀ i r, rF i = some r → r.2.2 ≠ [] ∧ RowV W (rowsRen W 42 rF) r.1 r.2.1 r.2.2 := fun i r h => by
    cases i with
    | zero =>
      have h' : some (b, off, ps.flatMap enc) = some r := h
      have h' := Option.some.inj h'
      subst h'
      refine ⟨hne, fun k v hk => ?_⟩
      have hk4 : k < m * 4 := by
        have := (List.getElem?_eq_some_iff.1 hk).1
        rw [fm_len enc_len, hpl] at this
        exact this
      have hd : k / 4 < m := by omega
      have hp : ps[k / 4]? = some (pv (k / 4)) := by simp [ps, hd]
      have hr : k % 4 < (enc (pv (k / 4))).length := by rw [enc_len]; exact Nat.mod_lt _ (by decide)
      have hv := fm_get (enc := enc) enc_len hp (List.getElem?_eq_getElem hr)
      rw [show k / 4 * 4 + k % 4 = k by omega] at hv
      have hkv : (enc (pv (k / 4)))[k % 4]? = some v := by
        rw [List.getElem?_eq_getElem hr]
        exact hv.symm.trans hk
      have hc := (hq (k / 4) (by omega)).1
      have at_ : ∀ j x, k % 4 = j → [Value.int .i64 (q (k / 4)).1.1, .int .i64 (q (k / 4)).1.2.1, .int .u64 (.ofNat (q (k / 4)).1.2.2.1), (q (k / 4)).1.2.2.2][j]? = some x → W.cell? ⟨b, off + k, none⟩ = some x := fun j x hj hx => by
        have := hc j x hx
        rw [add_plain] at this
        rw [show off + k = off + (k / 4 * 4 + j) by omega]
        exact this
      have hlt : k % 4 < 4 := Nat.mod_lt _ (by decide)
      have h4 : k % 4 = 0 ∨ k % 4 = 1 ∨ k % 4 = 2 ∨ k % 4 = 3 := by omega
      rcases h4 with h4 | h4 | h4 | h4 <;> rw [h4] at hkv <;> (simp [enc, pv] at hkv; subst hkv)
      · exact ⟨rfl, _, at_ 0 _ h4 rfl, .int _ _⟩
      · exact ⟨rfl, _, at_ 1 _ h4 rfl, .int _ _⟩
      · exact ⟨rfl, _, at_ 2 _ h4 rfl, .int _ _⟩
      · refine ⟨?_, _, at_ 3 _ h4 rfl, hrv _ hd⟩
        exact argCell (hq (k / 4) (by omega)).2.2.2.1
    | succ i =>
      have h' : (if i < m then (q i).2.2.2.2 else none) = some r := h
      by_cases hi : i < m
      · rw [if_pos hi] at h'
        exact ⟨(hpart i r hi h').1, RowV.of (hpart i r hi h').2⟩
      · rw [if_neg hi] at h'; cases h'
  have C : CameN ps rows len := by
    refine { len := by rw [hpl]; exact hm2, arg := fun i p hp => ?_, byte := fun p hp x hx => ?_, num := fun p hp => ?_, came := fun i => ?_, none := fun i hi => ?_, pos := fun e => ?_, few := fun h => ?_, many := fun h => ?_ }
    · obtain ⟨hi, rfl⟩ := hps i p hp
      show ArgB (i + 1) (q i).2.2.1 (if i < m then (q i).2.2.2.1 else .dead) (q i).2.1
      rw [if_pos hi]
      exact (hq i (by omega)).2.2.2.1
    · obtain ⟨i, hi, e⟩ := List.getElem_of_mem hp
      obtain ⟨hi, rfl⟩ := hps i p (by rw [← e]; exact List.getElem?_eq_getElem _)
      exact (hq i (by omega)).2.2.1 x hx
    · obtain ⟨i, hi, e⟩ := List.getElem_of_mem hp
      obtain ⟨hi, rfl⟩ := hps i p (by rw [← e]; exact List.getElem?_eq_getElem _)
      exact (hq i (by omega)).2.1
    · show Came (if i < m then (q i).2.2.2.1 else .dead)
      by_cases hi : i < m
      · rw [if_pos hi]; exact (hq i (by omega)).2.2.2.2.came (refU _)
      · rw [if_neg hi]; exact .inl rfl
    · show (if i < m then (q i).2.2.2.1 else .dead) = .dead
      rw [if_neg (by rw [hpl] at hi; omega)]
    · rw [e] at hpl; simp at hpl; omega
    · rw [hpl]; show min len 41 = len; omega
    · rw [hpl]; show min len 41 = 41; omega
  have hsr := rowsV_ok hgl (n := 42) (rows := rF) hrow (st := stB (RP ps) rows) rfl (fun i x hi => by
    rcases base_get hi with ⟨rfl, rfl⟩ | ⟨k, hk, rfl, rfl⟩
    · exact ⟨by omega, fun _ => ⟨_, rfl, rfl⟩⟩
    · refine ⟨by omega, fun hd => ?_⟩
      by_cases hkm : k < m
      · have e : rows k = (q k).2.2.2.1 := by show (if k < m then (q k).2.2.2.1 else .dead) = _; rw [if_pos hkm]
        rw [e] at hd ⊢
        obtain ⟨r, h1, h2⟩ := (hq k (by omega)).2.2.2.2.obj hd
        exact ⟨r, by show (if k < m then (q k).2.2.2.2 else none) = some r; rw [if_pos hkm]; exact h1, h2⟩
      · exact absurd (show (if k < m then (q k).2.2.2.1 else .dead) = .dead by rw [if_neg hkm]) hd)
  have h00 : ∃ tot, rowsRen W 42 rF 0 = some ⟨b, off, tot⟩ := by
    obtain ⟨c, e, lo, hi, k1, _⟩ := (hrow 0 _ rfl).2.block hne
    exact ⟨c.size, by simp only [rowsRen, rF, rowLoc, k1]; rfl⟩
  obtain ⟨tot, ht⟩ := h00
  have w0 : VR (rowsRen W 42 rF) (argL len) (.slice (some ⟨b, off, none⟩) len cap) := by
    have := VR.slice (ι := rowsRen W 42 rF) 0 0 len cap ⟨b, off, tot⟩ (.atl len) ht hl hl
    exact this
  have hv : VRs (rowsRen W 42 rF) [argL len] #[.slice (some ⟨b, off, none⟩) len cap] := ⟨rfl, fun i x x' hx hx' => by
    match i with
    | 0 => simp at hx hx'; subst hx; subst hx'; exact w0
    | i + 1 => simp at hx⟩
  exact law_at (fun _ h => h) (fun k hk => .inr hk) hsr hv (lawSome C)
theorem walk0 {W : World} {v0 : Value} {vl : AV} (h : AtMem Try.prog 3 [vl] (mkSt [(0, .dead)] 1) (.bool true)) (hvr : ∀ ι, VR ι vl v0) : Calls Try.prog 3 #[v0] W fun e w' => e = .returned (.bool true) ∧ Below W.heap.size W w' := by
  have hgl : GlobOK W := by intro _ _ h; cases h
  have hg : ∀ i, (mkSt [(0, AO.dead)] 1).h.get i = if i = 0 then some .dead else none := fun i => by
    show ((T.e : T AO).set D 0 _).get i = _
    rw [T.get_set, T.get_e]
  have hsr := rowsO_ok hgl (n := 1) (rows := fun _ => none) (fun i r h => by cases h) (st := mkSt [(0, .dead)] 1) rfl (fun i a hi => by
    rw [hg] at hi
    by_cases e0 : i = 0
    · subst e0; simp at hi; subst hi; exact ⟨by omega, fun h => absurd rfl h⟩
    · simp [e0] at hi)
  have hv : VRs (rowsRen W 1 (fun _ => none)) [vl] #[v0] := ⟨rfl, fun i x x' hx hx' => by
    match i with
    | 0 => simp at hx hx'; subst hx; subst hx'; exact hvr _
    | i + 1 => simp at hx⟩
  exact law_at (fun _ h => h) (fun k hk => .inr hk) hsr hv h
theorem opened {H : Type} {enc : TypeId × Value → H} {W : World} {fuel : Nat} {spare : Nat → Bool} {held : Bool} {v : Value} {x : DataW H × List MemPlace} (h : DataW.trod enc Try.prog W 0 spare held fuel 22 [v] = some x) :
    Calls Try.prog 3 #[v] W fun e w' => e = .returned (.bool true) ∧ Below W.heap.size W w' := by
  rcases open_slice Try.underlying22 h with ⟨hcs, _⟩ | ⟨a, len, cap, m, n, D, Pl, hcs, _, hl, _, hmm, _, hx⟩
  · simp at hcs
    subst hcs
    exact walk0 law0 fun ι => VR.sliceN
  · simp at hcs
    subst hcs
    by_cases h0 : len = 0
    · subst h0
      exact walk0 law1 fun ι => VR.slice0 _ _
    · have hlm : len ≤ m := by rw [hmm]; split <;> omega
      have c30 : Try.prog.cellsOf 30 = 4 := by kernel_rfl
      have each : ∀ i, i < len → ∃ q : (Int × Int × Nat × Value) × (List Nat × AV × AO × Option (Nat × Nat × List AV)), (∀ j x, [Value.int .i64 q.1.1, .int .i64 q.1.2.1, .int .u64 (.ofNat q.1.2.2.1), q.1.2.2.2][j]? = some x → W.cell? (a.add (i * 4 + j)) = some x) ∧ q.1.2.2.1 < 18446744073709551616 ∧
          (∀ x, x ∈ q.2.1 → x < 256) ∧ ArgB (i + 1) q.2.2.1 q.2.2.2.1 q.2.1 ∧ ArgAt E3 W 25 1 (i + 1) q.2.1.length q.1.2.2.2 (q.2.1.map cellU) q.2.2.1 q.2.2.2.1 q.2.2.2.2 := fun i hi => by
        obtain ⟨cs', h1, h2⟩ := hx i (by omega)
        rw [c30] at h1
        obtain ⟨_, hlen, hcell⟩ := World.cells?_some h1
        obtain ⟨q, hq, r1, r2, r3, r4⟩ := part_of (i + 1) h2
        refine ⟨q, fun j y hy => ?_, r1, r2, r3, r4⟩
        have hj : j < 4 := by
          have := (List.getElem?_eq_some_iff.1 hy).1
          simpa using this
        have e := hcell j (by omega)
        rw [add_add] at e
        rw [e]
        rw [← hq] at hy
        exact hy
      haveI : Inhabited ((Int × Int × Nat × Value) × (List Nat × AV × AO × Option (Nat × Nat × List AV))) := ⟨((0, 0, 0, .bool false), ([], .any, .dead, none))⟩
      obtain ⟨q, hq⟩ := choose_lt each
      exact walk (by omega) hl hq
set_option maxRecDepth 100000 in
theorem lifted (os : Os) (started : os.Started) (H : Type) (enc : TypeId × Value → H) :
    ReturnsInHanded {} Try.checked os 3 .any (Rows.wireWritesSpec.pre6 enc Try.prog Try.f3 Rows.wireWritesRow.domain false) (Rows.wireWritesSpec.post enc Try.prog Try.f3 false true false false) := by
  refine returnsInHanded_of_change (C := Try.checked) own started (by kernel_rfl) Try.func3
    (ChangeSpec.witness6 (enc := enc) (C := Try.checked) false ⟨#[], #[.slice none 0 0], []⟩ 8 (by kernel_rfl) (by kernel_rfl) (by kernel_rfl) (by kernel_rfl)) ?_
  intro W base args ds gs before hval0 hW hcnd _
  have hval : ∀ (j : Nat) t v, Try.f3.params[j]? = some t → args[j]? = some v → Value.okWide Try.prog W .any base t v := hval0
  have hW' := hW
  obtain ⟨p, q, hA0, hV, rfl, hfz, hnd⟩ := hW
  have hA : DataW.TrodAll enc Try.prog W 0 (fun _ => true) true Try.f3.params.toList args.toList ds p := hA0
  rw [Try.params3] at hA hval
  obtain ⟨v0, d0, rfl, rfl, h0⟩ := trodAll_one hA
  obtain ⟨rfl, rfl⟩ := trodVars_none hV
  obtain ⟨a0, len, cap, rfl⟩ := okWide_slice Try.underlying22 (hval 0 22 v0 rfl rfl)
  have h0k := h0
  obtain ⟨fu0, hf0⟩ := h0
  clear hA0 hval0
  simp only [List.append_nil] at hW'
  have hlt : ∀ x ∈ p, x.block < W.heap.size := fun x hx => by simpa using hW'.lt x hx
  have hcs : (Value.slice a0 len cap).cells.toList = [.slice a0 len cap] := by simp [Value.cells]
  rw [hcs] at hf0
  refine (opened hf0).mono fun e W' ⟨he, bel⟩ => ?_
  subst he
  have ARG0 : DataW.Trod enc Try.prog W' 0 (fun x => decide (x < W.heap.size)) true 22 (.slice a0 len cap) d0 p :=
    WideElems.Trod_stays laidOut (by kernel_rfl) (of_decide_eq_true (by kernel_rfl)) h0k (fun x hx => same_below bel (hlt x hx)) (fun x hx => by simpa using hlt x hx)
  exact ⟨_, rfl, _, _, _, [], _, [], hW', trodAll_mk1 (shut_bool Try.underlying4 _), trodAll_mk1 ARG0, rfl, bel.frame _, fun h => by cases h⟩
theorem over : Rows.wireWritesRow.holds Try.pinned (OpenSpec.ofChange Rows.wireWritesSpec) :=
  OpenClaim.holds_of_wide 3 Try.f3 rfl rfl rfl rfl rfl rfl rfl ⟨rfl, rfl, rfl, rfl, rfl⟩ rfl rfl rfl rfl rfl (by kernel_rfl) Try.func3 (by kernel_rfl)
    (of_decide_eq_true (by kernel_rfl)) (by unfold Func.isWrapper; first | (rw [if_pos (by decide +kernel)]; kernel_rfl) | (rw [if_neg (by decide +kernel)]; exact ⟨rfl, rfl⟩))
    (fun os started H enc _ => lifted os started H enc)
theorem proved : Rows.WireWritesSaid := over
end
#print axioms proved
end Go.Proofs.Ytlnohbilfogheaa.wwr
end
