/-
  PROVED HERE: 'Rows.ArbiterMeansSaid': for every row of steps the call of the law's function returns true, and the row reads as it did. No condition.
  THE WALK is a run of the function's text in an abstract machine (the texts YtidmijpfoodkoaaAxA to YtidmijpfoodkoaaAxLf show that it is sound), with the row, the history and the arbiter's state open: each piece between two loops, each round of a loop by one reckoning of the kernel ('vc..'), joined by invariants: what has happened is a chain of takings and releases.
-/
import Derived.Test.YtidmijpfoodkoaaRows
import Derived.Test.YtidmijpfoodkoaaAxLf
import Derived.WalkKit
import Derived.ProofKit
import Derived.OpenShut
import Derived.ShutString
import Derived.ChangeOld
import Derived.Below
import Derived.Deep.SlicePairs
import Derived.WideKeyArgs
import Derived.KernelRfl
open Go Go.Ax Go.Proofs.Ytidmijpfoodkoaa
namespace Go.Proofs.Ytidmijpfoodkoaa.arb
set_option linter.unusedVariables false
noncomputable def fns : List (Nat × Func) := [(3, Try.f3), (9, Try.f9), (10, Try.f10), (11, Try.f11), (12, Try.f12), (13, Try.f13), (14, Try.f14), (15, Try.f15), (39, Try.f39), (40, Try.f40), (41, Try.f41), (42, Try.f42), (53, Try.f53)]
noncomputable def E : Env := envEx Try.prog (List.range 119) fns []
noncomputable def sm : CallT := sumC [⟨9, [], .bool true⟩]
abbrev H := List (Int × Bool)
def enc (g : Int × Bool) : List AV := [.int .i64 g.1, .bool g.2]
-- the code's pieces
noncomputable def c3 : Code := Option.getD Try.f3.body .skip

noncomputable def r1 : Code := seqR c3
noncomputable def r2 : Code := seqR r1
noncomputable def r3 : Code := seqR r2
noncomputable def r4 : Code := seqR r3
noncomputable def r5 : Code := seqR r4
noncomputable def k0 : Code := seqL c3
noncomputable def k1 : Code := seqL r1
noncomputable def k2 : Code := seqL r2
noncomputable def k3 : Code := seqL r3
noncomputable def k4 : Code := seqL r4
noncomputable def k5 : Code := seqL (seqL r5)
noncomputable def B1 : Code := lopB (blkB (seqR (seqL r5)))
noncomputable def r6 : Code := seqR r5
/-- the frame, the memory at the loop's head -/
noncomputable def frI (n : Nat) (i : Nat) : AFr := xFr [(0, .slice (some (0, 0)) n (.atl n)), (2, .ptr (some (1, 0))), (3, .ptr (some (2, 0))), (4, .int .i64 (.ofNat i))] 97
noncomputable def arbA (by_ : Int) (tk : Bool) (all : AV) : AO := .cells [.int .i64 by_, .bool tk, all, .bool true] true
noncomputable def stI (l h : H) (by_ : Int) (tk : Bool) : ASt := mkSt [(0, .cells (l.flatMap enc) false), (1, .cells [.bool false] true), (2, arbA by_ tk (.slice (some (3, 0)) h.length (.rest 2))), (3, .cells (h.flatMap enc) true)] 4
noncomputable def stI0 (l : H) (by_ : Int) (tk : Bool) : ASt := mkSt [(0, .cells (l.flatMap enc) false), (1, .cells [.bool false] true), (2, arbA by_ tk (.slice none 0 (.known 0)))] 3
def fls : List (Nat × Fl) := [(11, ⟨[39], [9, 35], [16, 22], []⟩), (12, ⟨[43], [9, 39], [16, 25], []⟩), (40, ⟨[7], [], [], []⟩), (39, ⟨[], [7], [11, 14], []⟩)]
def fl3 : Fl := ⟨[27, 29, 33, 35, 40, 42], [36, 43], [22, 29], []⟩
def fl0 : Fl := ⟨[], [], [], []⟩

/-! ### A round of the first loop -/
noncomputable def rnd (l h : H) (n i : Nat) (by_ : Int) (tk : Bool) (x : Int) (tx : Bool) : Tr (Exit × AFr × ASt) := (TM E sm fls fl0 30).ex fl3 none B1 (frI n i) (stI l h by_ tk)
noncomputable def rnd0 (l : H) (n i : Nat) (by_ : Int) (tk : Bool) (x : Int) (tx : Bool) : Tr (Exit × AFr × ASt) := (TM E sm fls fl0 30).ex fl3 none B1 (frI n i) (stI0 l by_ tk)
noncomputable def vcR_s0 (l : H) (h : H) (n : Nat) (i : Nat) (by_ : Int) (tk : Bool) (x : Int) (tx : Bool) : ASt := mkSt [(0, AO.cells (List.flatMap enc l) false), (1, AO.cells [AV.bool false] true), (2, AO.cells [AV.int IntKind.i64 by_, AV.bool tk, AV.slice (some (3, 0)) (List.length h) (Cap.rest 2), AV.bool true] true), (3, AO.cells (List.flatMap enc h) true)] 4
noncomputable def vcR_s1 (l : H) (h : H) (n : Nat) (i : Nat) (by_ : Int) (tk : Bool) (x : Int) (tx : Bool) : ASt := mkSt [(0, AO.cells (List.flatMap enc l) false), (1, AO.cells [AV.bool false] true), (2, AO.cells [AV.int IntKind.i64 x, AV.bool true, AV.slice (some (3, 0)) (List.length h) (Cap.rest 2), AV.bool true] true), (3, AO.cells (List.flatMap enc h) true), (4, AO.cells [] true)] 5
noncomputable def vcR_s2 (l : H) (h : H) (n : Nat) (i : Nat) (by_ : Int) (tk : Bool) (x : Int) (tx : Bool) : ASt := mkSt [(0, AO.cells (List.flatMap enc l) false), (1, AO.cells [AV.bool false] true), (2, AO.cells [AV.int IntKind.i64 x, AV.bool true, AV.slice (some (3, 0)) (List.length h) (Cap.rest 2), AV.bool true] true), (3, AO.cells (List.flatMap enc h) true), (4, AO.cells [] true), (5, AO.cells (List.flatMap enc h) true)] 6
noncomputable def vcR_s3 (l : H) (h : H) (n : Nat) (i : Nat) (by_ : Int) (tk : Bool) (x : Int) (tx : Bool) : ASt := mkSt [(0, AO.cells (List.flatMap enc l) false), (1, AO.cells [AV.bool false] true), (2, AO.cells [AV.int IntKind.i64 x, AV.bool true, AV.slice (some (3, 0)) (List.length h) (Cap.rest 2), AV.bool true] true), (3, AO.cells (List.flatMap enc h) true), (4, AO.cells [] true), (5, AO.cells (List.flatMap enc h) true), (6, AO.cells [AV.int IntKind.i64 x, AV.bool true] true)] 7
noncomputable def vcR_s4 (l : H) (h : H) (n : Nat) (i : Nat) (by_ : Int) (tk : Bool) (x : Int) (tx : Bool) : ASt := mkSt [(0, AO.cells (List.flatMap enc l) false), (1, AO.cells [AV.bool false] true), (2, AO.cells [AV.int IntKind.i64 x, AV.bool true, AV.slice (some (3, 0)) (List.length h) (Cap.rest 2), AV.bool true] true), (3, AO.cells (List.flatMap enc h) true), (4, AO.cells [] true), (5, AO.dead), (6, AO.cells [AV.int IntKind.i64 x, AV.bool true] true), (7, AO.cells (List.flatMap enc h ++ [AV.int IntKind.i64 x, AV.bool true]) true)] 8
noncomputable def vcR_s5 (l : H) (h : H) (n : Nat) (i : Nat) (by_ : Int) (tk : Bool) (x : Int) (tx : Bool) : ASt := mkSt [(0, AO.cells (List.flatMap enc l) false), (1, AO.cells [AV.bool false] true), (2, AO.cells [AV.int IntKind.i64 x, AV.bool true, AV.slice (some (7, 0)) (List.length h + 1) (Cap.rest 2), AV.bool true] true), (3, AO.cells (List.flatMap enc h) true), (4, AO.cells [] true), (5, AO.dead), (6, AO.cells [AV.int IntKind.i64 x, AV.bool true] true), (7, AO.cells (List.flatMap enc h ++ [AV.int IntKind.i64 x, AV.bool true]) true)] 8
noncomputable def vcR_s6 (l : H) (h : H) (n : Nat) (i : Nat) (by_ : Int) (tk : Bool) (x : Int) (tx : Bool) : ASt := mkSt [(0, AO.cells (List.flatMap enc l) false), (1, AO.cells [AV.bool false] true), (2, AO.cells [AV.int IntKind.i64 (Int.ofNat 0), AV.bool false, AV.slice (some (3, 0)) (List.length h) (Cap.rest 2), AV.bool true] true), (3, AO.cells (List.flatMap enc h) true), (4, AO.cells [] true)] 5
noncomputable def vcR_s7 (l : H) (h : H) (n : Nat) (i : Nat) (by_ : Int) (tk : Bool) (x : Int) (tx : Bool) : ASt := mkSt [(0, AO.cells (List.flatMap enc l) false), (1, AO.cells [AV.bool false] true), (2, AO.cells [AV.int IntKind.i64 (Int.ofNat 0), AV.bool false, AV.slice (some (3, 0)) (List.length h) (Cap.rest 2), AV.bool true] true), (3, AO.cells (List.flatMap enc h) true), (4, AO.cells [] true), (5, AO.cells (List.flatMap enc h) true)] 6
noncomputable def vcR_s8 (l : H) (h : H) (n : Nat) (i : Nat) (by_ : Int) (tk : Bool) (x : Int) (tx : Bool) : ASt := mkSt [(0, AO.cells (List.flatMap enc l) false), (1, AO.cells [AV.bool false] true), (2, AO.cells [AV.int IntKind.i64 (Int.ofNat 0), AV.bool false, AV.slice (some (3, 0)) (List.length h) (Cap.rest 2), AV.bool true] true), (3, AO.cells (List.flatMap enc h) true), (4, AO.cells [] true), (5, AO.cells (List.flatMap enc h) true), (6, AO.cells [AV.int IntKind.i64 x, AV.bool false] true)] 7
noncomputable def vcR_s9 (l : H) (h : H) (n : Nat) (i : Nat) (by_ : Int) (tk : Bool) (x : Int) (tx : Bool) : ASt := mkSt [(0, AO.cells (List.flatMap enc l) false), (1, AO.cells [AV.bool false] true), (2, AO.cells [AV.int IntKind.i64 (Int.ofNat 0), AV.bool false, AV.slice (some (3, 0)) (List.length h) (Cap.rest 2), AV.bool true] true), (3, AO.cells (List.flatMap enc h) true), (4, AO.cells [] true), (5, AO.dead), (6, AO.cells [AV.int IntKind.i64 x, AV.bool false] true), (7, AO.cells (List.flatMap enc h ++ [AV.int IntKind.i64 x, AV.bool false]) true)] 8
noncomputable def vcR_s10 (l : H) (h : H) (n : Nat) (i : Nat) (by_ : Int) (tk : Bool) (x : Int) (tx : Bool) : ASt := mkSt [(0, AO.cells (List.flatMap enc l) false), (1, AO.cells [AV.bool false] true), (2, AO.cells [AV.int IntKind.i64 (Int.ofNat 0), AV.bool false, AV.slice (some (7, 0)) (List.length h + 1) (Cap.rest 2), AV.bool true] true), (3, AO.cells (List.flatMap enc h) true), (4, AO.cells [] true), (5, AO.dead), (6, AO.cells [AV.int IntKind.i64 x, AV.bool false] true), (7, AO.cells (List.flatMap enc h ++ [AV.int IntKind.i64 x, AV.bool false]) true)] 8
theorem vcR (l : H) (h : H) (n : Nat) (i : Nat) (by_ : Int) (tk : Bool) (x : Int) (tx : Bool) (Q : Exit × AFr × ASt → Prop) :
  (ifB (ltF (Int.ofNat i) (Int.ofNat n)) (still (vcR_s0 l h n i by_ tk x tx) (aIndexAddr E 22 (AV.slice (some (0, 0)) n (Cap.atl n)) (AV.int IntKind.i64 (Int.ofNat i))) = some (AV.ptr (some (0, 0 + i * 2)), vcR_s0 l h n i by_ tk x tx) ∧ aLoad E 4 (AV.ptr (some (0, 0 + i * 2 + 1))) (vcR_s0 l h n i by_ tk x tx) = some (AV.bool tx, vcR_s0 l h n i by_ tk x tx) ∧ ifB tx (still (vcR_s0 l h n i by_ tk x tx) (aIndexAddr E 22 (AV.slice (some (0, 0)) n (Cap.atl n)) (AV.int IntKind.i64 (Int.ofNat i))) = some (AV.ptr (some (0, 0 + i * 2)), vcR_s0 l h n i by_ tk x tx) ∧ aLoad E 3 (AV.ptr (some (0, 0 + i * 2 + 0))) (vcR_s0 l h n i by_ tk x tx) = some (AV.int IntKind.i64 x, vcR_s0 l h n i by_ tk x tx) ∧ ifB (!eqF x (Int.ofNat 0)) (ifB (!eqF x (Int.ofNat 1)) (Q (Exit.normal, xFr [(0, AV.slice (some (0, 0)) n (Cap.atl n)), (2, AV.ptr (some (1, 0))), (3, AV.ptr (some (2, 0))), (4, AV.int IntKind.i64 (wrapF IntKind.i64 (Int.ofNat i + Int.ofNat 1)))] 97, vcR_s0 l h n i by_ tk x tx)) (ifB tk (ifB (!eqF by_ x) (Q (Exit.normal, xFr [(0, AV.slice (some (0, 0)) n (Cap.atl n)), (2, AV.ptr (some (1, 0))), (3, AV.ptr (some (2, 0))), (4, AV.int IntKind.i64 (wrapF IntKind.i64 (Int.ofNat i + Int.ofNat 1)))] 97, vcR_s0 l h n i by_ tk x tx)) (Q (Exit.normal, xFr [(0, AV.slice (some (0, 0)) n (Cap.atl n)), (2, AV.ptr (some (1, 0))), (3, AV.ptr (some (2, 0))), (4, AV.int IntKind.i64 (wrapF IntKind.i64 (Int.ofNat i + Int.ofNat 1)))] 97, vcR_s0 l h n i by_ tk x tx))) (aBuiltinM E Builtin.append [43, 43] [AV.slice (some (4, 0)) 0 (Cap.known 0), AV.slice (some (3, 0)) (List.length h) (Cap.rest 2)] (vcR_s1 l h n i by_ tk x tx) = some (AV.slice (some (5, 0)) (List.length h) (Cap.rest 2), vcR_s2 l h n i by_ tk x tx) ∧ aBuiltinM E Builtin.append [43, 43] [AV.slice (some (5, 0)) (List.length h) (Cap.rest 2), AV.slice (some (6, 0)) 1 (Cap.known 1)] (vcR_s3 l h n i by_ tk x tx) = some (AV.slice (some (7, 0)) (List.length h + 1) (Cap.rest 2), vcR_s4 l h n i by_ tk x tx) ∧ Q (Exit.normal, xFr [(0, AV.slice (some (0, 0)) n (Cap.atl n)), (2, AV.ptr (some (1, 0))), (3, AV.ptr (some (2, 0))), (4, AV.int IntKind.i64 (wrapF IntKind.i64 (Int.ofNat i + Int.ofNat 1)))] 97, vcR_s5 l h n i by_ tk x tx)))) (ifB tk (ifB (!eqF by_ x) (Q (Exit.normal, xFr [(0, AV.slice (some (0, 0)) n (Cap.atl n)), (2, AV.ptr (some (1, 0))), (3, AV.ptr (some (2, 0))), (4, AV.int IntKind.i64 (wrapF IntKind.i64 (Int.ofNat i + Int.ofNat 1)))] 97, vcR_s0 l h n i by_ tk x tx)) (Q (Exit.normal, xFr [(0, AV.slice (some (0, 0)) n (Cap.atl n)), (2, AV.ptr (some (1, 0))), (3, AV.ptr (some (2, 0))), (4, AV.int IntKind.i64 (wrapF IntKind.i64 (Int.ofNat i + Int.ofNat 1)))] 97, vcR_s0 l h n i by_ tk x tx))) (aBuiltinM E Builtin.append [43, 43] [AV.slice (some (4, 0)) 0 (Cap.known 0), AV.slice (some (3, 0)) (List.length h) (Cap.rest 2)] (vcR_s1 l h n i by_ tk x tx) = some (AV.slice (some (5, 0)) (List.length h) (Cap.rest 2), vcR_s2 l h n i by_ tk x tx) ∧ aBuiltinM E Builtin.append [43, 43] [AV.slice (some (5, 0)) (List.length h) (Cap.rest 2), AV.slice (some (6, 0)) 1 (Cap.known 1)] (vcR_s3 l h n i by_ tk x tx) = some (AV.slice (some (7, 0)) (List.length h + 1) (Cap.rest 2), vcR_s4 l h n i by_ tk x tx) ∧ Q (Exit.normal, xFr [(0, AV.slice (some (0, 0)) n (Cap.atl n)), (2, AV.ptr (some (1, 0))), (3, AV.ptr (some (2, 0))), (4, AV.int IntKind.i64 (wrapF IntKind.i64 (Int.ofNat i + Int.ofNat 1)))] 97, vcR_s5 l h n i by_ tk x tx)))) (still (vcR_s0 l h n i by_ tk x tx) (aIndexAddr E 22 (AV.slice (some (0, 0)) n (Cap.atl n)) (AV.int IntKind.i64 (Int.ofNat i))) = some (AV.ptr (some (0, 0 + i * 2)), vcR_s0 l h n i by_ tk x tx) ∧ aLoad E 3 (AV.ptr (some (0, 0 + i * 2 + 0))) (vcR_s0 l h n i by_ tk x tx) = some (AV.int IntKind.i64 x, vcR_s0 l h n i by_ tk x tx) ∧ ifB (!eqF x (Int.ofNat 0)) (ifB (!eqF x (Int.ofNat 1)) (Q (Exit.normal, xFr [(0, AV.slice (some (0, 0)) n (Cap.atl n)), (2, AV.ptr (some (1, 0))), (3, AV.ptr (some (2, 0))), (4, AV.int IntKind.i64 (wrapF IntKind.i64 (Int.ofNat i + Int.ofNat 1)))] 97, vcR_s0 l h n i by_ tk x tx)) (ifB tk (ifB (!eqF by_ x) (Q (Exit.normal, xFr [(0, AV.slice (some (0, 0)) n (Cap.atl n)), (2, AV.ptr (some (1, 0))), (3, AV.ptr (some (2, 0))), (4, AV.int IntKind.i64 (wrapF IntKind.i64 (Int.ofNat i + Int.ofNat 1)))] 97, vcR_s0 l h n i by_ tk x tx)) (aBuiltinM E Builtin.append [43, 43] [AV.slice (some (4, 0)) 0 (Cap.known 0), AV.slice (some (3, 0)) (List.length h) (Cap.rest 2)] (vcR_s6 l h n i by_ tk x tx) = some (AV.slice (some (5, 0)) (List.length h) (Cap.rest 2), vcR_s7 l h n i by_ tk x tx) ∧ aBuiltinM E Builtin.append [43, 43] [AV.slice (some (5, 0)) (List.length h) (Cap.rest 2), AV.slice (some (6, 0)) 1 (Cap.known 1)] (vcR_s8 l h n i by_ tk x tx) = some (AV.slice (some (7, 0)) (List.length h + 1) (Cap.rest 2), vcR_s9 l h n i by_ tk x tx) ∧ Q (Exit.normal, xFr [(0, AV.slice (some (0, 0)) n (Cap.atl n)), (2, AV.ptr (some (1, 0))), (3, AV.ptr (some (2, 0))), (4, AV.int IntKind.i64 (wrapF IntKind.i64 (Int.ofNat i + Int.ofNat 1)))] 97, vcR_s10 l h n i by_ tk x tx))) (Q (Exit.normal, xFr [(0, AV.slice (some (0, 0)) n (Cap.atl n)), (2, AV.ptr (some (1, 0))), (3, AV.ptr (some (2, 0))), (4, AV.int IntKind.i64 (wrapF IntKind.i64 (Int.ofNat i + Int.ofNat 1)))] 97, vcR_s0 l h n i by_ tk x tx)))) (ifB tk (ifB (!eqF by_ x) (Q (Exit.normal, xFr [(0, AV.slice (some (0, 0)) n (Cap.atl n)), (2, AV.ptr (some (1, 0))), (3, AV.ptr (some (2, 0))), (4, AV.int IntKind.i64 (wrapF IntKind.i64 (Int.ofNat i + Int.ofNat 1)))] 97, vcR_s0 l h n i by_ tk x tx)) (aBuiltinM E Builtin.append [43, 43] [AV.slice (some (4, 0)) 0 (Cap.known 0), AV.slice (some (3, 0)) (List.length h) (Cap.rest 2)] (vcR_s6 l h n i by_ tk x tx) = some (AV.slice (some (5, 0)) (List.length h) (Cap.rest 2), vcR_s7 l h n i by_ tk x tx) ∧ aBuiltinM E Builtin.append [43, 43] [AV.slice (some (5, 0)) (List.length h) (Cap.rest 2), AV.slice (some (6, 0)) 1 (Cap.known 1)] (vcR_s8 l h n i by_ tk x tx) = some (AV.slice (some (7, 0)) (List.length h + 1) (Cap.rest 2), vcR_s9 l h n i by_ tk x tx) ∧ Q (Exit.normal, xFr [(0, AV.slice (some (0, 0)) n (Cap.atl n)), (2, AV.ptr (some (1, 0))), (3, AV.ptr (some (2, 0))), (4, AV.int IntKind.i64 (wrapF IntKind.i64 (Int.ofNat i + Int.ofNat 1)))] 97, vcR_s10 l h n i by_ tk x tx))) (Q (Exit.normal, xFr [(0, AV.slice (some (0, 0)) n (Cap.atl n)), (2, AV.ptr (some (1, 0))), (3, AV.ptr (some (2, 0))), (4, AV.int IntKind.i64 (wrapF IntKind.i64 (Int.ofNat i + Int.ofNat 1)))] 97, vcR_s0 l h n i by_ tk x tx))))) (Q (Exit.exit 0, xFr [(0, AV.slice (some (0, 0)) n (Cap.atl n)), (2, AV.ptr (some (1, 0))), (3, AV.ptr (some (2, 0))), (4, AV.int IntKind.i64 (Int.ofNat i))] 97, vcR_s0 l h n i by_ tk x tx))) =
  (rnd l h n i by_ tk x tx).allY (fun r => Q (canR [0, 2, 3, 4] [0, 1, 2, 3, 4, 5, 6, 7, 8, 9, 10] r)) (An.b (An.v (AV.ptr (some (0, 0 + i * 2)), vcR_s0 l h n i by_ tk x tx) (An.v (AV.bool tx, vcR_s0 l h n i by_ tk x tx) (An.b (An.v (AV.ptr (some (0, 0 + i * 2)), vcR_s0 l h n i by_ tk x tx) (An.v (AV.int IntKind.i64 x, vcR_s0 l h n i by_ tk x tx) (An.b (An.b An.nil (An.b (An.b An.nil An.nil) (An.v (AV.slice (some (5, 0)) (List.length h) (Cap.rest 2), vcR_s2 l h n i by_ tk x tx) (An.v (AV.slice (some (7, 0)) (List.length h + 1) (Cap.rest 2), vcR_s4 l h n i by_ tk x tx) An.nil)))) (An.b (An.b An.nil An.nil) (An.v (AV.slice (some (5, 0)) (List.length h) (Cap.rest 2), vcR_s2 l h n i by_ tk x tx) (An.v (AV.slice (some (7, 0)) (List.length h + 1) (Cap.rest 2), vcR_s4 l h n i by_ tk x tx) An.nil)))))) (An.v (AV.ptr (some (0, 0 + i * 2)), vcR_s0 l h n i by_ tk x tx) (An.v (AV.int IntKind.i64 x, vcR_s0 l h n i by_ tk x tx) (An.b (An.b An.nil (An.b (An.b An.nil (An.v (AV.slice (some (5, 0)) (List.length h) (Cap.rest 2), vcR_s7 l h n i by_ tk x tx) (An.v (AV.slice (some (7, 0)) (List.length h + 1) (Cap.rest 2), vcR_s9 l h n i by_ tk x tx) An.nil))) An.nil)) (An.b (An.b An.nil (An.v (AV.slice (some (5, 0)) (List.length h) (Cap.rest 2), vcR_s7 l h n i by_ tk x tx) (An.v (AV.slice (some (7, 0)) (List.length h + 1) (Cap.rest 2), vcR_s9 l h n i by_ tk x tx) An.nil))) An.nil))))))) An.nil) := by kernel_rfl
noncomputable def vcR0_s0 (l : H) (n : Nat) (i : Nat) (by_ : Int) (tk : Bool) (x : Int) (tx : Bool) : ASt := mkSt [(0, AO.cells (List.flatMap enc l) false), (1, AO.cells [AV.bool false] true), (2, AO.cells [AV.int IntKind.i64 by_, AV.bool tk, AV.slice none 0 (Cap.known 0), AV.bool true] true)] 3
noncomputable def vcR0_s1 (l : H) (n : Nat) (i : Nat) (by_ : Int) (tk : Bool) (x : Int) (tx : Bool) : ASt := mkSt [(0, AO.cells (List.flatMap enc l) false), (1, AO.cells [AV.bool false] true), (2, AO.cells [AV.int IntKind.i64 x, AV.bool true, AV.slice none 0 (Cap.known 0), AV.bool true] true), (3, AO.cells [AV.int IntKind.i64 x, AV.bool true] true)] 4
noncomputable def vcR0_s2 (l : H) (n : Nat) (i : Nat) (by_ : Int) (tk : Bool) (x : Int) (tx : Bool) : ASt := mkSt [(0, AO.cells (List.flatMap enc l) false), (1, AO.cells [AV.bool false] true), (2, AO.cells [AV.int IntKind.i64 x, AV.bool true, AV.slice none 0 (Cap.known 0), AV.bool true] true), (3, AO.cells [AV.int IntKind.i64 x, AV.bool true] true), (4, AO.cells [AV.int IntKind.i64 x, AV.bool true] true)] 5
noncomputable def vcR0_s3 (l : H) (n : Nat) (i : Nat) (by_ : Int) (tk : Bool) (x : Int) (tx : Bool) : ASt := mkSt [(0, AO.cells (List.flatMap enc l) false), (1, AO.cells [AV.bool false] true), (2, AO.cells [AV.int IntKind.i64 x, AV.bool true, AV.slice (some (4, 0)) 1 (Cap.rest 2), AV.bool true] true), (3, AO.cells [AV.int IntKind.i64 x, AV.bool true] true), (4, AO.cells [AV.int IntKind.i64 x, AV.bool true] true)] 5
noncomputable def vcR0_s4 (l : H) (n : Nat) (i : Nat) (by_ : Int) (tk : Bool) (x : Int) (tx : Bool) : ASt := mkSt [(0, AO.cells (List.flatMap enc l) false), (1, AO.cells [AV.bool false] true), (2, AO.cells [AV.int IntKind.i64 (Int.ofNat 0), AV.bool false, AV.slice none 0 (Cap.known 0), AV.bool true] true), (3, AO.cells [AV.int IntKind.i64 x, AV.bool false] true)] 4
noncomputable def vcR0_s5 (l : H) (n : Nat) (i : Nat) (by_ : Int) (tk : Bool) (x : Int) (tx : Bool) : ASt := mkSt [(0, AO.cells (List.flatMap enc l) false), (1, AO.cells [AV.bool false] true), (2, AO.cells [AV.int IntKind.i64 (Int.ofNat 0), AV.bool false, AV.slice none 0 (Cap.known 0), AV.bool true] true), (3, AO.cells [AV.int IntKind.i64 x, AV.bool false] true), (4, AO.cells [AV.int IntKind.i64 x, AV.bool false] true)] 5
noncomputable def vcR0_s6 (l : H) (n : Nat) (i : Nat) (by_ : Int) (tk : Bool) (x : Int) (tx : Bool) : ASt := mkSt [(0, AO.cells (List.flatMap enc l) false), (1, AO.cells [AV.bool false] true), (2, AO.cells [AV.int IntKind.i64 (Int.ofNat 0), AV.bool false, AV.slice (some (4, 0)) 1 (Cap.rest 2), AV.bool true] true), (3, AO.cells [AV.int IntKind.i64 x, AV.bool false] true), (4, AO.cells [AV.int IntKind.i64 x, AV.bool false] true)] 5
theorem vcR0 (l : H) (n : Nat) (i : Nat) (by_ : Int) (tk : Bool) (x : Int) (tx : Bool) (Q : Exit × AFr × ASt → Prop) :
  (ifB (ltF (Int.ofNat i) (Int.ofNat n)) (still (vcR0_s0 l n i by_ tk x tx) (aIndexAddr E 22 (AV.slice (some (0, 0)) n (Cap.atl n)) (AV.int IntKind.i64 (Int.ofNat i))) = some (AV.ptr (some (0, 0 + i * 2)), vcR0_s0 l n i by_ tk x tx) ∧ aLoad E 4 (AV.ptr (some (0, 0 + i * 2 + 1))) (vcR0_s0 l n i by_ tk x tx) = some (AV.bool tx, vcR0_s0 l n i by_ tk x tx) ∧ ifB tx (still (vcR0_s0 l n i by_ tk x tx) (aIndexAddr E 22 (AV.slice (some (0, 0)) n (Cap.atl n)) (AV.int IntKind.i64 (Int.ofNat i))) = some (AV.ptr (some (0, 0 + i * 2)), vcR0_s0 l n i by_ tk x tx) ∧ aLoad E 3 (AV.ptr (some (0, 0 + i * 2 + 0))) (vcR0_s0 l n i by_ tk x tx) = some (AV.int IntKind.i64 x, vcR0_s0 l n i by_ tk x tx) ∧ ifB (!eqF x (Int.ofNat 0)) (ifB (!eqF x (Int.ofNat 1)) (Q (Exit.normal, xFr [(0, AV.slice (some (0, 0)) n (Cap.atl n)), (2, AV.ptr (some (1, 0))), (3, AV.ptr (some (2, 0))), (4, AV.int IntKind.i64 (wrapF IntKind.i64 (Int.ofNat i + Int.ofNat 1)))] 97, vcR0_s0 l n i by_ tk x tx)) (ifB tk (ifB (!eqF by_ x) (Q (Exit.normal, xFr [(0, AV.slice (some (0, 0)) n (Cap.atl n)), (2, AV.ptr (some (1, 0))), (3, AV.ptr (some (2, 0))), (4, AV.int IntKind.i64 (wrapF IntKind.i64 (Int.ofNat i + Int.ofNat 1)))] 97, vcR0_s0 l n i by_ tk x tx)) (Q (Exit.normal, xFr [(0, AV.slice (some (0, 0)) n (Cap.atl n)), (2, AV.ptr (some (1, 0))), (3, AV.ptr (some (2, 0))), (4, AV.int IntKind.i64 (wrapF IntKind.i64 (Int.ofNat i + Int.ofNat 1)))] 97, vcR0_s0 l n i by_ tk x tx))) (aBuiltinM E Builtin.append [43, 43] [AV.slice none 0 (Cap.known 0), AV.slice (some (3, 0)) 1 (Cap.known 1)] (vcR0_s1 l n i by_ tk x tx) = some (AV.slice (some (4, 0)) 1 (Cap.rest 2), vcR0_s2 l n i by_ tk x tx) ∧ Q (Exit.normal, xFr [(0, AV.slice (some (0, 0)) n (Cap.atl n)), (2, AV.ptr (some (1, 0))), (3, AV.ptr (some (2, 0))), (4, AV.int IntKind.i64 (wrapF IntKind.i64 (Int.ofNat i + Int.ofNat 1)))] 97, vcR0_s3 l n i by_ tk x tx)))) (ifB tk (ifB (!eqF by_ x) (Q (Exit.normal, xFr [(0, AV.slice (some (0, 0)) n (Cap.atl n)), (2, AV.ptr (some (1, 0))), (3, AV.ptr (some (2, 0))), (4, AV.int IntKind.i64 (wrapF IntKind.i64 (Int.ofNat i + Int.ofNat 1)))] 97, vcR0_s0 l n i by_ tk x tx)) (Q (Exit.normal, xFr [(0, AV.slice (some (0, 0)) n (Cap.atl n)), (2, AV.ptr (some (1, 0))), (3, AV.ptr (some (2, 0))), (4, AV.int IntKind.i64 (wrapF IntKind.i64 (Int.ofNat i + Int.ofNat 1)))] 97, vcR0_s0 l n i by_ tk x tx))) (aBuiltinM E Builtin.append [43, 43] [AV.slice none 0 (Cap.known 0), AV.slice (some (3, 0)) 1 (Cap.known 1)] (vcR0_s1 l n i by_ tk x tx) = some (AV.slice (some (4, 0)) 1 (Cap.rest 2), vcR0_s2 l n i by_ tk x tx) ∧ Q (Exit.normal, xFr [(0, AV.slice (some (0, 0)) n (Cap.atl n)), (2, AV.ptr (some (1, 0))), (3, AV.ptr (some (2, 0))), (4, AV.int IntKind.i64 (wrapF IntKind.i64 (Int.ofNat i + Int.ofNat 1)))] 97, vcR0_s3 l n i by_ tk x tx)))) (still (vcR0_s0 l n i by_ tk x tx) (aIndexAddr E 22 (AV.slice (some (0, 0)) n (Cap.atl n)) (AV.int IntKind.i64 (Int.ofNat i))) = some (AV.ptr (some (0, 0 + i * 2)), vcR0_s0 l n i by_ tk x tx) ∧ aLoad E 3 (AV.ptr (some (0, 0 + i * 2 + 0))) (vcR0_s0 l n i by_ tk x tx) = some (AV.int IntKind.i64 x, vcR0_s0 l n i by_ tk x tx) ∧ ifB (!eqF x (Int.ofNat 0)) (ifB (!eqF x (Int.ofNat 1)) (Q (Exit.normal, xFr [(0, AV.slice (some (0, 0)) n (Cap.atl n)), (2, AV.ptr (some (1, 0))), (3, AV.ptr (some (2, 0))), (4, AV.int IntKind.i64 (wrapF IntKind.i64 (Int.ofNat i + Int.ofNat 1)))] 97, vcR0_s0 l n i by_ tk x tx)) (ifB tk (ifB (!eqF by_ x) (Q (Exit.normal, xFr [(0, AV.slice (some (0, 0)) n (Cap.atl n)), (2, AV.ptr (some (1, 0))), (3, AV.ptr (some (2, 0))), (4, AV.int IntKind.i64 (wrapF IntKind.i64 (Int.ofNat i + Int.ofNat 1)))] 97, vcR0_s0 l n i by_ tk x tx)) (aBuiltinM E Builtin.append [43, 43] [AV.slice none 0 (Cap.known 0), AV.slice (some (3, 0)) 1 (Cap.known 1)] (vcR0_s4 l n i by_ tk x tx) = some (AV.slice (some (4, 0)) 1 (Cap.rest 2), vcR0_s5 l n i by_ tk x tx) ∧ Q (Exit.normal, xFr [(0, AV.slice (some (0, 0)) n (Cap.atl n)), (2, AV.ptr (some (1, 0))), (3, AV.ptr (some (2, 0))), (4, AV.int IntKind.i64 (wrapF IntKind.i64 (Int.ofNat i + Int.ofNat 1)))] 97, vcR0_s6 l n i by_ tk x tx))) (Q (Exit.normal, xFr [(0, AV.slice (some (0, 0)) n (Cap.atl n)), (2, AV.ptr (some (1, 0))), (3, AV.ptr (some (2, 0))), (4, AV.int IntKind.i64 (wrapF IntKind.i64 (Int.ofNat i + Int.ofNat 1)))] 97, vcR0_s0 l n i by_ tk x tx)))) (ifB tk (ifB (!eqF by_ x) (Q (Exit.normal, xFr [(0, AV.slice (some (0, 0)) n (Cap.atl n)), (2, AV.ptr (some (1, 0))), (3, AV.ptr (some (2, 0))), (4, AV.int IntKind.i64 (wrapF IntKind.i64 (Int.ofNat i + Int.ofNat 1)))] 97, vcR0_s0 l n i by_ tk x tx)) (aBuiltinM E Builtin.append [43, 43] [AV.slice none 0 (Cap.known 0), AV.slice (some (3, 0)) 1 (Cap.known 1)] (vcR0_s4 l n i by_ tk x tx) = some (AV.slice (some (4, 0)) 1 (Cap.rest 2), vcR0_s5 l n i by_ tk x tx) ∧ Q (Exit.normal, xFr [(0, AV.slice (some (0, 0)) n (Cap.atl n)), (2, AV.ptr (some (1, 0))), (3, AV.ptr (some (2, 0))), (4, AV.int IntKind.i64 (wrapF IntKind.i64 (Int.ofNat i + Int.ofNat 1)))] 97, vcR0_s6 l n i by_ tk x tx))) (Q (Exit.normal, xFr [(0, AV.slice (some (0, 0)) n (Cap.atl n)), (2, AV.ptr (some (1, 0))), (3, AV.ptr (some (2, 0))), (4, AV.int IntKind.i64 (wrapF IntKind.i64 (Int.ofNat i + Int.ofNat 1)))] 97, vcR0_s0 l n i by_ tk x tx))))) (Q (Exit.exit 0, xFr [(0, AV.slice (some (0, 0)) n (Cap.atl n)), (2, AV.ptr (some (1, 0))), (3, AV.ptr (some (2, 0))), (4, AV.int IntKind.i64 (Int.ofNat i))] 97, vcR0_s0 l n i by_ tk x tx))) =
  (rnd0 l n i by_ tk x tx).allY (fun r => Q (canR [0, 2, 3, 4] [0, 1, 2, 3, 4, 5, 6, 7, 8, 9, 10] r)) (An.b (An.v (AV.ptr (some (0, 0 + i * 2)), vcR0_s0 l n i by_ tk x tx) (An.v (AV.bool tx, vcR0_s0 l n i by_ tk x tx) (An.b (An.v (AV.ptr (some (0, 0 + i * 2)), vcR0_s0 l n i by_ tk x tx) (An.v (AV.int IntKind.i64 x, vcR0_s0 l n i by_ tk x tx) (An.b (An.b An.nil (An.b (An.b An.nil An.nil) (An.v (AV.slice (some (4, 0)) 1 (Cap.rest 2), vcR0_s2 l n i by_ tk x tx) An.nil))) (An.b (An.b An.nil An.nil) (An.v (AV.slice (some (4, 0)) 1 (Cap.rest 2), vcR0_s2 l n i by_ tk x tx) An.nil))))) (An.v (AV.ptr (some (0, 0 + i * 2)), vcR0_s0 l n i by_ tk x tx) (An.v (AV.int IntKind.i64 x, vcR0_s0 l n i by_ tk x tx) (An.b (An.b An.nil (An.b (An.b An.nil (An.v (AV.slice (some (4, 0)) 1 (Cap.rest 2), vcR0_s5 l n i by_ tk x tx) An.nil)) An.nil)) (An.b (An.b An.nil (An.v (AV.slice (some (4, 0)) 1 (Cap.rest 2), vcR0_s5 l n i by_ tk x tx) An.nil)) An.nil))))))) An.nil) := by kernel_rfl

/-! ### What has happened: takings and releases change places -/
def chain : Bool → Int → H → Option (Bool × Int)
  | t, b, [] => some (t, b)
  | t, b, x :: xs => if x.2 = t ∨ (x.2 = false ∧ x.1 ≠ b) ∨ x.1 < 0 ∨ 1 < x.1 then none else chain x.2 x.1 xs

theorem chain_snoc : ∀ (h : H) (t : Bool) (b : Int) (t' : Bool) (b' : Int) (x : Int × Bool), chain t b h = some (t', b') → ¬ (x.2 = t' ∨ (x.2 = false ∧ x.1 ≠ b') ∨ x.1 < 0 ∨ 1 < x.1) → chain t b (h ++ [x]) = some (x.2, x.1)
  | [], t, b, t', b', x, h, hx => by
    simp only [chain, Option.some.injEq, Prod.mk.injEq] at h
    obtain ⟨rfl, rfl⟩ := h
    simp only [List.nil_append, chain, hx, if_false]
  | y :: ys, t, b, t', b', x, h, hx => by
    simp only [chain] at h
    split at h
    · cases h
    · rename_i hy
      simp only [List.cons_append, chain, hy, if_false]
      exact chain_snoc ys y.2 y.1 t' b' x h hx

def Inv (h : H) (by_ : Int) (tk : Bool) : Prop := ∃ b, chain false 0 h = some (tk, b) ∧ (tk = true → by_ = b)

theorem Inv.take {h : H} {by_ x : Int} (hi : Inv h by_ false) (hx : x = 0 ∨ x = 1) : Inv (h ++ [(x, true)]) x true := by
  obtain ⟨b, h1, _⟩ := hi
  exact ⟨x, chain_snoc h false 0 false b (x, true) h1 (by simp; omega), fun _ => rfl⟩
theorem Inv.release {h : H} {by_ x : Int} (hi : Inv h by_ true) (hx : x = 0 ∨ x = 1) (he : by_ = x) : Inv (h ++ [(x, false)]) 0 false := by
  obtain ⟨b, h1, h2⟩ := hi
  have := h2 rfl
  exact ⟨x, chain_snoc h false 0 true b (x, false) h1 (by simp; omega), fun h => by cases h⟩

/-! ### The types -/
theorem sl22 : sliceT E 22 = some 2 := by kernel_rfl
theorem ce4 : cellT E 4 = true := by kernel_rfl
theorem ce3 : cellT E 3 = true := by kernel_rfl
theorem ap43 : appT E 43 43 = some (2, 16) := by kernel_rfl
theorem encLen (x : Int × Bool) : (enc x).length = 2 := rfl
theorem encRef (l : H) : ∀ c, c ∈ l.flatMap enc → refsV 0 c := fun c hc => by
  obtain ⟨x, _, hx⟩ := List.mem_flatMap.1 hc
  simp only [enc, List.mem_cons, List.not_mem_nil, or_false] at hx
  rcases hx with rfl | rfl <;> simp [refsV]

/-! ### A round of the first loop -/
/-- the memory at the loop's head -/
noncomputable def stJ (l h : H) (by_ : Int) (tk : Bool) : ASt := match h with | [] => stI0 l by_ tk | _ :: _ => stI l h by_ tk

/-- what a round makes of the memory -/
def RndQ (l : H) (n i : Nat) (J : ASt) (r : Exit × AFr × ASt) : Prop :=
  (i < n ∧ ∃ h by_ tk, h.length ≤ i + 1 ∧ Inv h by_ tk ∧ Stops 1 .normal (frI n (i + 1)) (stJ l h by_ tk) r) ∨ (i = n ∧ Stops 1 (.exit 0) (frI n i) J r)

theorem stJ_cons (l h : H) (g : Int × Bool) (by_ : Int) (tk : Bool) : stJ l (h ++ [g]) by_ tk = stI l (h ++ [g]) by_ tk := by
  cases h <;> rfl

theorem toJ {l h : H} {n i : Nat} {x y : Int} {b tk : Bool} {S : ASt} (k : Nat) (hn : noDup [0, 1, 2, k] = true) (h5 : idxN [0, 1, 2, k] k 0 = some 3) (h0 : S.h.get 0 = some (.cells (l.flatMap enc) false)) (h1 : S.h.get 1 = some (.cells [.bool false] true))
    (h2 : S.h.get 2 = some (.cells [.int .i64 y, .bool tk, .slice (some (k, 0)) (h.length + 1) (.rest 2), .bool true] true)) (h3 : S.h.get k = some (.cells (h.flatMap enc ++ [.int .i64 x, .bool b]) true)) :
    Wk 1 (frI n i) S (frI n i) (stJ l (h ++ [(x, b)]) y tk) := by
  rw [stJ_cons]
  unfold stI
  have e1 : (h ++ [(x, b)]).length = h.length + 1 := by simp
  have e2 : (h ++ [(x, b)]).flatMap enc = h.flatMap enc ++ [.int .i64 x, .bool b] := by simp [enc]
  rw [e1, e2]
  refine Wk.heldX [0, 1, 2, k] rfl hn [0, 2, 3, 4] (by kernel_rfl) (.cons 0 _ rfl h0 (RenO.row (encRef l)) <| .cons 1 _ rfl h1 (RenO.of rfl) <| .cons 2 _ rfl h2 (RenO.of ?_) <| .cons k _ rfl h3 (RenO.row ?_) .nil)
  · simp [renO, allR, mapR, renT, renV, h5, arbA]
  · intro c hc
    rcases List.mem_append.1 hc with hc | hc
    · exact encRef h c hc
    · simp at hc; rcases hc with rfl | rfl <;> simp [refsV]

theorem RndQ.can {l : H} {n i : Nat} {J : ASt} {kf ko : List Nat} {r : Exit × AFr × ASt} (h : RndQ l n i J (canR kf ko r)) : RndQ l n i J r := by
  rcases h with ⟨h1, h, b, t, h2, h3, h4⟩ | h
  · exact .inl ⟨h1, h, b, t, h2, h3, h4.can⟩
  · exact .inr ⟨h.1, h.2.can⟩

theorem stayJ {l h : H} {n i : Nat} {by_ : Int} {tk : Bool} (nx : Nat) : Wk 1 (frI n i) (stI l h by_ tk) (frI n i) (stI l h by_ tk) := Wk.refl _ _ _

theorem load_row {l : H} {i : Nat} {x : Int} {tx : Bool} {S : ASt} (h0 : S.h.get 0 = some (.cells (l.flatMap enc) false)) (hx : l[i]? = some (x, tx)) :
    aLoad E 3 (.ptr (some (0, 0 + i * 2 + 0))) S = some (.int .i64 x, S) ∧ aLoad E 4 (.ptr (some (0, 0 + i * 2 + 1))) S = some (.bool tx, S) :=
  ⟨load_at ce3 h0 (by rw [Nat.zero_add]; exact fm_get encLen hx rfl), load_at ce4 h0 (by rw [Nat.zero_add]; exact fm_get encLen hx rfl)⟩

theorem round1 (hs : CallsOK Try.prog sm) (hE : Env.Ok Try.prog E) {l h : H} {i : Nat} {by_ : Int} {tk : Bool} (hn : l.length ≤ 60) (hi : i ≤ l.length) (hh : h.length ≤ i) (h1 : 0 < h.length) (hinv : Inv h by_ tk) :
    Trip Try.prog 1 none B1 (frI l.length i) (stI l h by_ tk) (RndQ l l.length i (stI l h by_ tk)) := by
  have go : ∀ x tx, (i < l.length → l[i]? = some (x, tx)) → Trip Try.prog 1 none B1 (frI l.length i) (stI l h by_ tk) fun r => RndQ l l.length i (stI l h by_ tk) (canR [0, 2, 3, 4] [0, 1, 2, 3, 4, 5, 6, 7, 8, 9, 10] r) := fun x tx hx => by
    refine Trip.runY hE hs (Eq.mp (vcR l h l.length i by_ tk x tx (RndQ l l.length i (stI l h by_ tk))) ?_)
    have hw := wrap_succ (i := i) (by omega)
    rw [hw]
    have hst : vcR_s0 l h l.length i by_ tk x tx = stI l h by_ tk := rfl
    have hJ : stJ l h by_ tk = stI l h by_ tk := by cases h with | nil => simp at h1 | cons _ _ => rfl
    refine ifB_mk (fun hlt => ?_) (fun hge => ?_)
    · rw [ltF_nn] at hlt
      have hlt : i < l.length := by simpa using hlt
      have hxi := hx hlt
      have hstay : RndQ l l.length i (stI l h by_ tk) (.normal, frI l.length (i + 1), stI l h by_ tk) := .inl ⟨hlt, h, by_, tk, by omega, hinv, rfl, by rw [hJ]; exact Wk.refl _ _ _⟩
      obtain ⟨ld3, ld4⟩ := load_row (S := stI l h by_ tk) (by kernel_rfl) hxi
      have fm := fm_all (l := h) encLen
      have app1 : ∀ S : ASt, S.h.get 3 = some (.cells (h.flatMap enc) true) → S.h.get 4 = some (.cells [] true) → aBuiltinM E .append [43, 43] [.slice (some (4, 0)) 0 (.known 0), .slice (some (3, 0)) h.length (.rest 2)] S = some (.slice (some (S.next, 0)) h.length (.rest 2), S.add (.cells (h.flatMap enc) true)) := fun S g3 g4 =>
        append_zero_at ap43 rfl (first_at g3 fm) g4 h1 (by omega) (by omega)
      have app2 : ∀ (S : ASt) (v : List AV), S.h.get 5 = some (.cells (h.flatMap enc) true) → S.h.get 6 = some (.cells v true) → v.length = 2 → aBuiltinM E .append [43, 43] [.slice (some (5, 0)) h.length (.rest 2), .slice (some (6, 0)) 1 (.known 1)] S = some (.slice (some (S.next, 0)) (h.length + 1) (.rest 2), (S.put 5 .dead).add (.cells (h.flatMap enc ++ v) true)) := fun S v g5 g6 hv =>
        append_grow_at ap43 rfl (first_at g6 (by obtain ⟨a, b, rfl⟩ : ∃ a b, v = [a, b] := (by match v, hv with | [a, b], _ => exact ⟨a, b, rfl⟩); rfl)) g5 (fm_len encLen h) (by omega) (by omega) (by omega) (by omega)
      refine ⟨still_idx sl22 hlt, by rw [hst]; exact ld4, ifB_mk (fun ht => ?_) (fun ht => ?_)⟩
      · subst ht
        refine ⟨still_idx sl22 hlt, by rw [hst]; exact ld3, ?_⟩
        refine ifB_mk (fun e0 => ifB_mk (fun e1 => hstay) (fun e1 => ?_)) (fun e0 => ?_)
        all_goals
          have h01 : x = 0 ∨ x = 1 := by first | exact .inl (neqF_f e0) | exact .inr (neqF_f e1)
          refine ifB_mk (fun htk => ifB_mk (fun _ => hstay) (fun _ => hstay)) (fun htk => ?_)
          subst htk
          exact ⟨(app1 _ (by kernel_rfl) (by kernel_rfl)).trans (by kernel_rfl), (app2 _ [.int .i64 x, .bool true] (by kernel_rfl) (by kernel_rfl) rfl).trans (by kernel_rfl),
            .inl ⟨hlt, h ++ [(x, true)], x, true, by simp; omega, hinv.take h01, rfl, toJ 7 rfl rfl (by kernel_rfl) (by kernel_rfl) (by kernel_rfl) (by kernel_rfl)⟩⟩
      · subst ht
        refine ⟨still_idx sl22 hlt, by rw [hst]; exact ld3, ?_⟩
        refine ifB_mk (fun e0 => ifB_mk (fun e1 => hstay) (fun e1 => ?_)) (fun e0 => ?_)
        all_goals
          have h01 : x = 0 ∨ x = 1 := by first | exact .inl (neqF_f e0) | exact .inr (neqF_f e1)
          refine ifB_mk (fun htk => ifB_mk (fun _ => hstay) (fun hb => ?_)) (fun htk => hstay)
          subst htk
          have hbx := neqF_f hb
          exact ⟨(app1 _ (by kernel_rfl) (by kernel_rfl)).trans (by kernel_rfl), (app2 _ [.int .i64 x, .bool false] (by kernel_rfl) (by kernel_rfl) rfl).trans (by kernel_rfl),
            .inl ⟨hlt, h ++ [(x, false)], 0, false, by simp; omega, hinv.release h01 hbx, rfl, toJ 7 rfl rfl (by kernel_rfl) (by kernel_rfl) (by kernel_rfl) (by kernel_rfl)⟩⟩
    · rw [ltF_nn] at hge
      have : i = l.length := by simp at hge; omega
      exact .inr ⟨this, rfl, Wk.refl _ _ _⟩
  by_cases hlt : i < l.length
  · exact (go l[i].1 l[i].2 (fun _ => by simp [hlt])).mono fun r hr => hr.can
  · exact (go 0 true (fun h => absurd h hlt)).mono fun r hr => hr.can

theorem round0 (hs : CallsOK Try.prog sm) (hE : Env.Ok Try.prog E) {l : H} {i : Nat} {by_ : Int} {tk : Bool} (hn : l.length ≤ 60) (hi : i ≤ l.length) (hinv : Inv [] by_ tk) :
    Trip Try.prog 1 none B1 (frI l.length i) (stI0 l by_ tk) (RndQ l l.length i (stI0 l by_ tk)) := by
  have go : ∀ x tx, (i < l.length → l[i]? = some (x, tx)) → Trip Try.prog 1 none B1 (frI l.length i) (stI0 l by_ tk) fun r => RndQ l l.length i (stI0 l by_ tk) (canR [0, 2, 3, 4] [0, 1, 2, 3, 4, 5, 6, 7, 8, 9, 10] r) := fun x tx hx => by
    refine Trip.runY hE hs (Eq.mp (vcR0 l l.length i by_ tk x tx (RndQ l l.length i (stI0 l by_ tk))) ?_)
    have hw := wrap_succ (i := i) (by omega)
    rw [hw]
    have hst : vcR0_s0 l l.length i by_ tk x tx = stI0 l by_ tk := rfl
    refine ifB_mk (fun hlt => ?_) (fun hge => ?_)
    · rw [ltF_nn] at hlt
      have hlt : i < l.length := by simpa using hlt
      have hxi := hx hlt
      have hstay : RndQ l l.length i (stI0 l by_ tk) (.normal, frI l.length (i + 1), stI0 l by_ tk) := .inl ⟨hlt, [], by_, tk, by simp, hinv, rfl, Wk.refl _ _ _⟩
      obtain ⟨ld3, ld4⟩ := load_row (S := stI0 l by_ tk) (by kernel_rfl) hxi
      have app : ∀ (S : ASt) (v : List AV), S.h.get 3 = some (.cells v true) → v.length = 2 → aBuiltinM E .append [43, 43] [.slice none 0 (.known 0), .slice (some (3, 0)) 1 (.known 1)] S = some (.slice (some (S.next, 0)) 1 (.rest 2), S.add (.cells v true)) := fun S v g5 hv =>
        append_nil_at ap43 rfl (first_at g5 (by obtain ⟨a, b, rfl⟩ : ∃ a b, v = [a, b] := (by match v, hv with | [a, b], _ => exact ⟨a, b, rfl⟩); rfl)) (by omega) (by omega) (by omega)
      refine ⟨still_idx sl22 hlt, by rw [hst]; exact ld4, ifB_mk (fun ht => ?_) (fun ht => ?_)⟩
      · subst ht
        refine ⟨still_idx sl22 hlt, by rw [hst]; exact ld3, ?_⟩
        refine ifB_mk (fun e0 => ifB_mk (fun e1 => hstay) (fun e1 => ?_)) (fun e0 => ?_)
        all_goals
          have h01 : x = 0 ∨ x = 1 := by first | exact .inl (neqF_f e0) | exact .inr (neqF_f e1)
          refine ifB_mk (fun htk => ifB_mk (fun _ => hstay) (fun _ => hstay)) (fun htk => ?_)
          subst htk
          exact ⟨(app _ [.int .i64 x, .bool true] (by kernel_rfl) rfl).trans (by kernel_rfl),
            .inl ⟨hlt, [] ++ [(x, true)], x, true, by simp, hinv.take h01, rfl, toJ (h := []) 4 rfl rfl (by kernel_rfl) (by kernel_rfl) (by kernel_rfl) (by kernel_rfl)⟩⟩
      · subst ht
        refine ⟨still_idx sl22 hlt, by rw [hst]; exact ld3, ?_⟩
        refine ifB_mk (fun e0 => ifB_mk (fun e1 => hstay) (fun e1 => ?_)) (fun e0 => ?_)
        all_goals
          refine ifB_mk (fun htk => ?_) (fun htk => hstay)
          subst htk
          obtain ⟨b, h1, _⟩ := hinv
          simp [chain] at h1
    · rw [ltF_nn] at hge
      have : i = l.length := by simp at hge; omega
      exact .inr ⟨this, rfl, Wk.refl _ _ _⟩
  by_cases hlt : i < l.length
  · exact (go l[i].1 l[i].2 (fun _ => by simp [hlt])).mono fun r hr => hr.can
  · exact (go 0 true (fun h => absurd h hlt)).mono fun r hr => hr.can

/-- the first loop: what may have happened behind it -/
theorem loop1 (hs : CallsOK Try.prog sm) (hE : Env.Ok Try.prog E) {l : H} (hn : l.length ≤ 60) :
    Trip Try.prog 1 none (.block 0 (.loop B1)) (frI l.length 0) (stJ l [] 0 false) fun r => ∃ h by_ tk, h.length ≤ l.length ∧ Inv h by_ tk ∧ Stops 1 .normal (frI l.length l.length) (stJ l h by_ tk) r := by
  refine Trip.block (Trip.loop (fun m fr st => ∃ i h by_ tk, i ≤ l.length ∧ m = l.length - i ∧ h.length ≤ i ∧ Inv h by_ tk ∧ fr = frI l.length i ∧ st = stJ l h by_ tk) ?_ l.length ⟨0, [], 0, false, by omega, by omega, by simp, ⟨0, rfl, fun h => by cases h⟩, rfl, rfl⟩)
  rintro m fr st ⟨i, h, by_, tk, hi, rfl, hh, hinv, rfl, rfl⟩
  have key : Trip Try.prog 1 none B1 (frI l.length i) (stJ l h by_ tk) (RndQ l l.length i (stJ l h by_ tk)) := by
    cases h with
    | nil => exact round0 hs hE hn hi hinv
    | cons g h => exact round1 hs hE hn hi hh (by simp) hinv
  refine key.mono ?_
  rintro ⟨e, fr', st'⟩ (⟨hlt, h2, b2, t2, hh2, hi2, he, hw⟩ | ⟨heq, he, hw⟩)
  · simp only at he hw
    subst he
    exact ⟨l.length - (i + 1), _, _, by omega, hw, i + 1, h2, b2, t2, by omega, rfl, hh2, hi2, rfl, rfl⟩
  · simp only at he hw
    subst he
    rw [heq] at hw
    exact ⟨fun _ => ⟨h, by_, tk, by omega, hinv, rfl, hw⟩, fun h => absurd rfl h⟩

noncomputable def blkR : Code := seqL (dropC 1 r6)
noncomputable def r7 : Code := seqR (dropC 1 r6)
noncomputable def k17 : Code := seqL blkR
noncomputable def rng : Code := blkB (seqR blkR)
def asOf : Code → Code
  | .rangeFunc _ _ a _ => a
  | _ => .skip
def boOf : Code → Code
  | .rangeFunc _ _ _ b => b
  | _ => .skip
noncomputable def asR : Code := asOf rng
noncomputable def boR : Code := boOf rng
noncomputable def c53 : Code := Option.getD Try.f53.body .skip
noncomputable def q0 : Code := seqL c53
noncomputable def Bd : Code := lopB (blkB (seqR c53))
/-- the law's frame, the memory where the range begins -/
noncomputable def lfr : List (Nat × AV) := [(2, .ptr (some (1, 0))), (3, .ptr (some (2, 0))), (5, .ptr (some (4, 0))), (6, .ptr (some (5, 0)))]
noncomputable def frR : AFr := xFr lfr 97
noncomputable def obR (l h : H) (by_ : Int) (tk t : Bool) (b : Int) : List (Nat × AO) := [(0, .cells (l.flatMap enc) false), (1, .cells [.bool false] true), (2, arbA by_ tk (.slice (some (3, 0)) h.length (.rest 2))), (3, .cells (h.flatMap enc) true), (4, .cells [.bool t] true), (5, .cells [.int .i64 b] true)]
noncomputable def stR (l h : H) (by_ : Int) (tk : Bool) : ASt := mkSt (obR l h by_ tk false 0) 6
noncomputable def frK : AFr := xFr (lfr ++ [(48, .clos 53 [.ptr (some (6, 0))])]) 97
noncomputable def box6 (h : H) : List (Nat × AO) := [(6, .cells [.slice (some (3, 0)) h.length (.rest 2)] true)]
noncomputable def stK (l h : H) (by_ : Int) (tk : Bool) : ASt := mkSt (obR l h by_ tk false 0 ++ box6 h) 7
noncomputable def lrec : AO := .loop .ready none frK [49, 50] asR boR 7
noncomputable def frL (n k : Nat) : AFr := xFr [(0, .yield 8), (5, .slice (some (3, 0)) n (.rest 2)), (6, .int .i64 (.ofNat n)), (7, .int .i64 (.ofNat k))] 18
noncomputable def stL (l h : H) (by_ : Int) (tk t : Bool) (b : Int) : ASt := mkSt (obR l h by_ tk t b ++ box6 h ++ [(7, .defd), (8, lrec)]) 9
def fl53 : Fl := ⟨[10, 11], [15], [8], []⟩
def rfR : Fl := ⟨[], [77], [54, 58, 63, 69, 74], []⟩
noncomputable def pre1 (l h : H) (n : Nat) (by_ : Int) (tk : Bool) : Tr (Exit × AFr × ASt) := (TM E sm fls fl0 30).ex fl0 none (preC 1 r6) (frI n n) (stI l h by_ tk)
noncomputable def pre2 (l h : H) (by_ : Int) (tk : Bool) : Tr (Exit × AFr × ASt) := (TM E sm fls fl0 30).ex fl0 none k17 frR (stR l h by_ tk)
noncomputable def pre3 (l h : H) (by_ : Int) (tk : Bool) : Tr (Exit × AFr × ASt) := (TM E sm fls fl0 30).ex fl0 none q0 { m := putArgs [.yield 8, .ptr (some (6, 0))] 0 .e, n := 18, defs := [] } (((stK l h by_ tk).add .defd).add lrec)
noncomputable def rndH (l h : H) (n k : Nat) (by_ : Int) (tk t : Bool) (b x : Int) (tx : Bool) : Tr (Exit × AFr × ASt) := (TM E sm fls rfR 30).ex fl53 none Bd (frL n k) (stL l h by_ tk t b)
noncomputable def vcP1_s0 (l : H) (h : H) (n : Nat) (by_ : Int) (tk : Bool) : ASt := mkSt [(0, AO.cells (List.flatMap enc l) false), (1, AO.cells [AV.bool false] true), (2, AO.cells [AV.int IntKind.i64 by_, AV.bool tk, AV.slice (some (3, 0)) (List.length h) (Cap.rest 2), AV.bool true] true), (3, AO.cells (List.flatMap enc h) true), (4, AO.cells [AV.bool false] true), (5, AO.cells [AV.int IntKind.i64 (Int.ofNat 0)] true)] 7
theorem vcP1 (l : H) (h : H) (n : Nat) (by_ : Int) (tk : Bool) (Q : Exit × AFr × ASt → Prop) :
  (Q (Exit.normal, xFr [(2, AV.ptr (some (1, 0))), (3, AV.ptr (some (2, 0))), (5, AV.ptr (some (4, 0))), (6, AV.ptr (some (5, 0)))] 97, vcP1_s0 l h n by_ tk)) =
  (pre1 l h n by_ tk).allY (fun r => Q (canR [2, 3, 5, 6] [0, 1, 2, 3, 4, 5] r)) (An.nil) := by kernel_rfl
noncomputable def vcP2_s0 (l : H) (h : H) (by_ : Int) (tk : Bool) : ASt := mkSt [(0, AO.cells (List.flatMap enc l) false), (1, AO.cells [AV.bool false] true), (2, AO.cells [AV.int IntKind.i64 by_, AV.bool tk, AV.slice (some (3, 0)) (List.length h) (Cap.rest 2), AV.bool true] true), (3, AO.cells (List.flatMap enc h) true), (4, AO.cells [AV.bool false] true), (5, AO.cells [AV.int IntKind.i64 (Int.ofNat 0)] true), (6, AO.cells [AV.slice (some (3, 0)) (List.length h) (Cap.rest 2)] true)] 7
theorem vcP2 (l : H) (h : H) (by_ : Int) (tk : Bool) (Q : Exit × AFr × ASt → Prop) :
  (Q (Exit.normal, xFr [(2, AV.ptr (some (1, 0))), (3, AV.ptr (some (2, 0))), (5, AV.ptr (some (4, 0))), (6, AV.ptr (some (5, 0))), (48, AV.clos 53 [AV.ptr (some (6, 0))])] 97, vcP2_s0 l h by_ tk)) =
  (pre2 l h by_ tk).allY (fun r => Q (canR [2, 3, 5, 6, 48] [0, 1, 2, 3, 4, 5, 6] r)) (An.nil) := by kernel_rfl
noncomputable def vcP3_s0 (l : H) (h : H) (by_ : Int) (tk : Bool) : ASt := mkSt [(0, AO.cells (List.flatMap enc l) false), (1, AO.cells [AV.bool false] true), (2, AO.cells [AV.int IntKind.i64 by_, AV.bool tk, AV.slice (some (3, 0)) (List.length h) (Cap.rest 2), AV.bool true] true), (3, AO.cells (List.flatMap enc h) true), (4, AO.cells [AV.bool false] true), (5, AO.cells [AV.int IntKind.i64 (Int.ofNat 0)] true), (6, AO.cells [AV.slice (some (3, 0)) (List.length h) (Cap.rest 2)] true), (7, AO.defd), (8, AO.loop LoopState.ready none frK [49, 50] asR boR 7)] 9
theorem vcP3 (l : H) (h : H) (by_ : Int) (tk : Bool) (Q : Exit × AFr × ASt → Prop) :
  (Q (Exit.normal, xFr [(0, AV.yield 8), (5, AV.slice (some (3, 0)) (List.length h) (Cap.rest 2)), (6, AV.int IntKind.i64 (Int.ofNat (List.length h))), (7, AV.int IntKind.i64 (Int.ofNat 0))] 18, vcP3_s0 l h by_ tk)) =
  (pre3 l h by_ tk).allY (fun r => Q (canR [0, 5, 6, 7] [0, 1, 2, 3, 4, 5, 6, 7, 8] r)) (An.nil) := by kernel_rfl
noncomputable def vcH_s0 (l : H) (h : H) (n : Nat) (k : Nat) (by_ : Int) (tk : Bool) (t : Bool) (b : Int) (x : Int) (tx : Bool) : ASt := mkSt [(0, AO.cells (List.flatMap enc l) false), (1, AO.cells [AV.bool false] true), (2, AO.cells [AV.int IntKind.i64 by_, AV.bool tk, AV.slice (some (3, 0)) (List.length h) (Cap.rest 2), AV.bool true] true), (3, AO.cells (List.flatMap enc h) true), (4, AO.cells [AV.bool t] true), (5, AO.cells [AV.int IntKind.i64 b] true), (6, AO.cells [AV.slice (some (3, 0)) (List.length h) (Cap.rest 2)] true), (7, AO.defd), (8, AO.loop LoopState.ready none frK [49, 50] asR boR 7)] 9
noncomputable def vcH_s1 (l : H) (h : H) (n : Nat) (k : Nat) (by_ : Int) (tk : Bool) (t : Bool) (b : Int) (x : Int) (tx : Bool) : ASt := mkSt [(0, AO.cells (List.flatMap enc l) false), (1, AO.cells [AV.bool false] true), (2, AO.cells [AV.int IntKind.i64 by_, AV.bool tk, AV.slice (some (3, 0)) (List.length h) (Cap.rest 2), AV.bool true] true), (3, AO.cells (List.flatMap enc h) true), (4, AO.cells [AV.bool t] true), (5, AO.cells [AV.int IntKind.i64 b] true), (6, AO.cells [AV.slice (some (3, 0)) (List.length h) (Cap.rest 2)] true), (7, AO.defd), (8, AO.loop LoopState.done (some Code.ret) frK [49, 50] asR boR 7)] 11
noncomputable def vcH_s2 (l : H) (h : H) (n : Nat) (k : Nat) (by_ : Int) (tk : Bool) (t : Bool) (b : Int) (x : Int) (tx : Bool) : ASt := mkSt [(0, AO.cells (List.flatMap enc l) false), (1, AO.cells [AV.bool false] true), (2, AO.cells [AV.int IntKind.i64 by_, AV.bool tk, AV.slice (some (3, 0)) (List.length h) (Cap.rest 2), AV.bool true] true), (3, AO.cells (List.flatMap enc h) true), (4, AO.cells [AV.bool tx] true), (5, AO.cells [AV.int IntKind.i64 x] true), (6, AO.cells [AV.slice (some (3, 0)) (List.length h) (Cap.rest 2)] true), (7, AO.defd), (8, AO.loop LoopState.ready none frK [49, 50] asR boR 7)] 17
theorem vcH (l : H) (h : H) (n : Nat) (k : Nat) (by_ : Int) (tk : Bool) (t : Bool) (b : Int) (x : Int) (tx : Bool) (Q : Exit × AFr × ASt → Prop) :
  (ifB (ltF (Int.ofNat k) (Int.ofNat n)) (still (vcH_s0 l h n k by_ tk t b x tx) (aIndexAddr E 43 (AV.slice (some (3, 0)) n (Cap.rest 2)) (AV.int IntKind.i64 (Int.ofNat k))) = some (AV.ptr (some (3, 0 + k * 2)), vcH_s0 l h n k by_ tk t b x tx) ∧ aLoad E 35 (AV.ptr (some (3, 0 + k * 2))) (vcH_s0 l h n k by_ tk t b x tx) = some (AV.agg [AV.int IntKind.i64 x, AV.bool tx], vcH_s0 l h n k by_ tk t b x tx) ∧ ifB (boolEq tx t) (Q (Exit.ret, xFr [(0, AV.yield 8), (5, AV.slice (some (3, 0)) n (Cap.rest 2)), (6, AV.int IntKind.i64 (Int.ofNat n)), (7, AV.int IntKind.i64 (Int.ofNat k))] 18, vcH_s1 l h n k by_ tk t b x tx)) (ifB (!tx) (ifB (!eqF x b) (Q (Exit.ret, xFr [(0, AV.yield 8), (5, AV.slice (some (3, 0)) n (Cap.rest 2)), (6, AV.int IntKind.i64 (Int.ofNat n)), (7, AV.int IntKind.i64 (Int.ofNat k))] 18, vcH_s1 l h n k by_ tk t b x tx)) (ifB (ltF x (Int.ofNat 0)) (Q (Exit.ret, xFr [(0, AV.yield 8), (5, AV.slice (some (3, 0)) n (Cap.rest 2)), (6, AV.int IntKind.i64 (Int.ofNat n)), (7, AV.int IntKind.i64 (Int.ofNat k))] 18, vcH_s1 l h n k by_ tk t b x tx)) (ifB (ltF (Int.ofNat 1) x) (Q (Exit.ret, xFr [(0, AV.yield 8), (5, AV.slice (some (3, 0)) n (Cap.rest 2)), (6, AV.int IntKind.i64 (Int.ofNat n)), (7, AV.int IntKind.i64 (Int.ofNat k))] 18, vcH_s1 l h n k by_ tk t b x tx)) (holdsO [(some (AV.int IntKind.i64 x), AV.int IntKind.i64 x)] ∧ Q (Exit.normal, xFr [(0, AV.yield 8), (5, AV.slice (some (3, 0)) n (Cap.rest 2)), (6, AV.int IntKind.i64 (Int.ofNat n)), (7, AV.int IntKind.i64 (wrapF IntKind.i64 (Int.ofNat k + Int.ofNat 1)))] 18, vcH_s2 l h n k by_ tk t b x tx))))) (ifB (ltF x (Int.ofNat 0)) (Q (Exit.ret, xFr [(0, AV.yield 8), (5, AV.slice (some (3, 0)) n (Cap.rest 2)), (6, AV.int IntKind.i64 (Int.ofNat n)), (7, AV.int IntKind.i64 (Int.ofNat k))] 18, vcH_s1 l h n k by_ tk t b x tx)) (ifB (ltF (Int.ofNat 1) x) (Q (Exit.ret, xFr [(0, AV.yield 8), (5, AV.slice (some (3, 0)) n (Cap.rest 2)), (6, AV.int IntKind.i64 (Int.ofNat n)), (7, AV.int IntKind.i64 (Int.ofNat k))] 18, vcH_s1 l h n k by_ tk t b x tx)) (holdsO [(some (AV.int IntKind.i64 x), AV.int IntKind.i64 x)] ∧ Q (Exit.normal, xFr [(0, AV.yield 8), (5, AV.slice (some (3, 0)) n (Cap.rest 2)), (6, AV.int IntKind.i64 (Int.ofNat n)), (7, AV.int IntKind.i64 (wrapF IntKind.i64 (Int.ofNat k + Int.ofNat 1)))] 18, vcH_s2 l h n k by_ tk t b x tx)))))) (Q (Exit.exit 0, xFr [(0, AV.yield 8), (5, AV.slice (some (3, 0)) n (Cap.rest 2)), (6, AV.int IntKind.i64 (Int.ofNat n)), (7, AV.int IntKind.i64 (Int.ofNat k))] 18, vcH_s0 l h n k by_ tk t b x tx))) =
  (rndH l h n k by_ tk t b x tx).allY (fun r => Q (canR [0, 5, 6, 7] [0, 1, 2, 3, 4, 5, 6, 7, 8] r)) (An.b (An.v (AV.ptr (some (3, 0 + k * 2)), vcH_s0 l h n k by_ tk t b x tx) (An.v (AV.agg [AV.int IntKind.i64 x, AV.bool tx], vcH_s0 l h n k by_ tk t b x tx) (An.b An.nil (An.b (An.b An.nil (An.b An.nil (An.b An.nil An.nil))) (An.b An.nil (An.b An.nil An.nil)))))) An.nil) := by kernel_rfl

noncomputable def frK2 : AFr := { m := frK.m, n := 97, defs := [7] }
noncomputable def stE (l h : H) (by_ : Int) (tk t : Bool) (b : Int) : ASt := mkSt [(1, .cells [.bool false] true), (2, arbA by_ tk (.slice (some (3, 0)) h.length (.rest 2))), (4, .cells [.bool t] true), (5, .cells [.int .i64 b] true), (7, .defd)] 9
def fl7 : Fl := ⟨[], [82], [87, 90, 94], []⟩
def fls7 : List (Nat × Fl) := [(14, ⟨[], [10], [], []⟩)]
noncomputable def endT (l h : H) (by_ : Int) (tk t : Bool) (b : Int) : Tr (Exit × AFr × ASt) := (TM E sm fls7 fl0 30).ex fl7 none r7 frK2 (stE l h by_ tk t b)
def fl0n : Fl := ⟨[], [82, 45, 48], [87, 90, 94], []⟩
noncomputable def endN (l : H) (n : Nat) (by_ : Int) : Tr (Exit × AFr × ASt) := (TM E sm fls7 rfR 60).ex fl0n none r6 (frI n n) (stI0 l by_ false)
theorem vcE (l : H) (h : H) (by_ : Int) (tk t : Bool) (b : Int) (Q : Exit × Option AV → Prop) :
  (ifB (boolEq tk t) (ifB (!tk) (Q (Exit.ret, some (AV.bool true))) (ifB (eqF by_ b) (Q (Exit.ret, some (AV.bool true))) (Q (Exit.ret, some (AV.bool false))))) (Q (Exit.ret, some (AV.bool false)))) =
  (endT l h by_ tk t b).allY (fun r => Q (r.1, ans (leaveA E Try.f3 r.2.1 r.2.2))) (An.b (An.b An.nil (An.b An.nil An.nil)) An.nil) := by kernel_rfl
theorem vcN (l : H) (n : Nat) (by_ : Int) (Q : Exit × Option AV → Prop) :
  (Q (Exit.ret, some (AV.bool true))) =
  (endN l n by_).allY (fun r => Q (r.1, ans (leaveA E Try.f3 r.2.1 r.2.2))) (An.b (An.b An.nil An.nil) An.nil) := by kernel_rfl

/-! ### The range over what happened -/
theorem chain_append : ∀ (h1 h2 : H) (t : Bool) (b : Int), chain t b (h1 ++ h2) = match chain t b h1 with | some (t', b') => chain t' b' h2 | none => none
  | [], h2, t, b => rfl
  | x :: xs, h2, t, b => by
    simp only [List.cons_append, chain]
    split
    · rfl
    · exact chain_append xs h2 _ _

theorem chain_next {h : H} {k : Nat} {x : Int × Bool} {t : Bool} {b : Int} {r : Bool × Int} (hr : chain false 0 h = some r) (hk : chain false 0 (h.take k) = some (t, b)) (hx : h[k]? = some x) :
    ¬ (x.2 = t ∨ (x.2 = false ∧ x.1 ≠ b) ∨ x.1 < 0 ∨ 1 < x.1) ∧ chain false 0 (h.take (k + 1)) = some (x.2, x.1) := by
  have hkl : k < h.length := (List.getElem?_eq_some_iff.1 hx).1
  have e : h = h.take k ++ (x :: h.drop (k + 1)) := by
    have e1 : h.drop k = x :: h.drop (k + 1) := by
      rw [List.drop_eq_getElem_cons hkl]
      rw [List.getElem?_eq_getElem hkl] at hx
      simp only [Option.some.injEq] at hx
      rw [hx]
    rw [← e1, List.take_append_drop]
  have hgood : ¬ (x.2 = t ∨ (x.2 = false ∧ x.1 ≠ b) ∨ x.1 < 0 ∨ 1 < x.1) := fun hbad => by
    rw [e, chain_append, hk] at hr
    simp only [chain, hbad, if_true] at hr
    cases hr
  refine ⟨hgood, ?_⟩
  rw [List.take_succ_eq_append_getElem hkl]
  have : h[k] = x := by rw [List.getElem?_eq_getElem hkl] at hx; simpa using hx
  rw [this]
  exact chain_snoc _ _ _ _ _ _ hk hgood

theorem sl43 : sliceT E 43 = some 2 := by kernel_rfl
theorem ag35 : aggT E 35 = some 2 := by kernel_rfl

theorem avRefl_int (k : IntKind) (n : Int) : avEq (.int k n) (.int k n) = true := by simp [avEq]

theorem boolEq_f {a b : Bool} (h : boolEq a b = false) : a ≠ b := by intro e; subst e; cases a <;> cases h
theorem boolEq_t {a b : Bool} (h : boolEq a b = true) : a = b := by cases a <;> cases b <;> first | rfl | cases h

def HQ (l h : H) (by_ : Int) (tk : Bool) (k : Nat) (t : Bool) (b : Int) (r : Exit × AFr × ASt) : Prop :=
  (k < h.length ∧ ∃ t2 b2, chain false 0 (h.take (k + 1)) = some (t2, b2) ∧ Stops 9 .normal (frL h.length (k + 1)) (stL l h by_ tk t2 b2) r) ∨
  (k = h.length ∧ canR [0, 5, 6, 7] [0, 1, 2, 3, 4, 5, 6, 7, 8] r = (.exit 0, frL h.length k, stL l h by_ tk t b))

theorem lfr_refs : ∀ t, refsV 9 ((frK.m.get t).getD undefA) := by
  intro t
  unfold frK
  rw [xFr_get]
  by_cases ht : t < 97
  · simp only [ht, if_true]
    rcases lkp_mem (l := lfr ++ [(48, .clos 53 [.ptr (some (6, 0))])]) (t := t) with e | ⟨p, p1, _, p3⟩
    · rw [e]; simp [refsV]
    · rw [← p3]
      simp only [lfr, List.cons_append, List.nil_append, List.mem_cons, List.not_mem_nil, or_false] at p1
      rcases p1 with rfl | rfl | rfl | rfl | rfl <;> simp [refsV]
  · simp only [ht, if_false]; simp [undefA, refsV]

theorem toL {l h : H} {by_ : Int} {tk : Bool} {t2 : Bool} {b2 : Int} {k nx : Nat} {S : ASt} (hS : S = mkSt (obR l h by_ tk t2 b2 ++ box6 h ++ [(7, .defd), (8, lrec)]) nx) :
    Wk 9 (frL h.length k) S (frL h.length k) (stL l h by_ tk t2 b2) := by
  subst hS
  have hp : preB 9 0 [0, 1, 2, 3, 4, 5, 6, 7, 8] = true := rfl
  refine Wk.heldX [0, 1, 2, 3, 4, 5, 6, 7, 8] hp rfl [0, 5, 6, 7] (by kernel_rfl) ?_
  refine .cons 0 (.cells (l.flatMap enc) false) rfl (by kernel_rfl) (RenO.row (encRef l)) <| .cons 1 (.cells [.bool false] true) rfl (by kernel_rfl) (RenO.of rfl) <|
    .cons 2 (arbA by_ tk (.slice (some (3, 0)) h.length (.rest 2))) rfl (by kernel_rfl) (RenO.of rfl) <| .cons 3 (.cells (h.flatMap enc) true) rfl (by kernel_rfl) (RenO.row (encRef h)) <|
    .cons 4 (.cells [.bool t2] true) rfl (by kernel_rfl) (RenO.of rfl) <| .cons 5 (.cells [.int .i64 b2] true) rfl (by kernel_rfl) (RenO.of rfl) <|
    .cons 6 (.cells [.slice (some (3, 0)) h.length (.rest 2)] true) rfl (by kernel_rfl) (RenO.of rfl) <| .cons 7 .defd rfl (by kernel_rfl) (RenO.keep hp trivial) <|
    .cons 8 lrec rfl (by kernel_rfl) (RenO.keep hp ⟨lfr_refs, by decide⟩) .nil

theorem roundH (hs : CallsOK Try.prog sm) (hE : Env.Ok Try.prog E) {l h : H} {by_ : Int} {tk : Bool} {k : Nat} {t : Bool} {b : Int} {r : Bool × Int} (hh : h.length ≤ 60) (hk : k ≤ h.length) (hr : chain false 0 h = some r) (ht : chain false 0 (h.take k) = some (t, b)) :
    Trip Try.prog 9 none Bd (frL h.length k) (stL l h by_ tk t b) (HQ l h by_ tk k t b) := by
  have go : ∀ x tx, (k < h.length → h[k]? = some (x, tx)) → Trip Try.prog 9 none Bd (frL h.length k) (stL l h by_ tk t b) (HQ l h by_ tk k t b) := fun x tx hx => by
    let Q : Exit × AFr × ASt → Prop := fun r' => (k < h.length ∧ ∃ t2 b2, chain false 0 (h.take (k + 1)) = some (t2, b2) ∧ Stops 9 .normal (frL h.length (k + 1)) (stL l h by_ tk t2 b2) r') ∨ (k = h.length ∧ r' = (.exit 0, frL h.length k, stL l h by_ tk t b))
    refine (Trip.runY hE hs (Eq.mp (vcH l h h.length k by_ tk t b x tx Q) ?_)).mono fun r hq => ?_
    · have hw := wrap_succ (i := k) (by omega)
      rw [hw]
      refine ifB_mk (fun hlt => ?_) (fun hge => ?_)
      · rw [ltF_nn] at hlt
        have hlt : k < h.length := by simpa using hlt
        have hxk := hx hlt
        obtain ⟨hgood, hnext⟩ := chain_next hr ht hxk
        simp only [not_or, not_and, Classical.not_not, Int.not_lt] at hgood
        obtain ⟨g1, g2, g3, g4⟩ := hgood
        have hfin : Q (.normal, frL h.length (k + 1), vcH_s2 l h h.length k by_ tk t b x tx) := .inl ⟨hlt, tx, x, hnext, rfl, toL rfl⟩
        refine ⟨still_idx sl43 hlt, load_agg (rw := true) ag35 (by kernel_rfl) (by rw [Nat.zero_add]; exact fm_one encLen hxk), ifB_mk (fun e => absurd (boolEq_t e) g1) fun _ => ifB_mk (fun e => ?_) (fun e => ?_)⟩
        · refine ifB_mk (fun e2 => absurd (g2 (by simpa using e)) (neqF_t e2)) fun _ => ifB_mk (fun e2 => absurd (ltF_t e2) (by show ¬ x < 0; omega)) fun _ => ifB_mk (fun e2 => absurd (ltF_t e2) (by show ¬ 1 < x; omega)) fun _ => ⟨⟨⟨rfl, avRefl_int _ _⟩, trivial⟩, hfin⟩
        · refine ifB_mk (fun e2 => absurd (ltF_t e2) (by show ¬ x < 0; omega)) fun _ => ifB_mk (fun e2 => absurd (ltF_t e2) (by show ¬ 1 < x; omega)) fun _ => ⟨⟨⟨rfl, avRefl_int _ _⟩, trivial⟩, hfin⟩
      · rw [ltF_nn] at hge
        exact .inr ⟨by simp at hge; omega, rfl⟩
    · rcases hq with ⟨q1, t2, b2, q2, q3⟩ | ⟨q1, q2⟩
      · exact .inl ⟨q1, t2, b2, q2, q3.can⟩
      · exact .inr ⟨q1, q2⟩
  by_cases hlt : k < h.length
  · exact go h[k].1 h[k].2 (fun _ => by simp [hlt])
  · exact go 0 true (fun h => absurd h hlt)

theorem loopH (hs : CallsOK Try.prog sm) (hE : Env.Ok Try.prog E) {l h : H} {by_ : Int} {tk tF : Bool} {bF : Int} (hh : h.length ≤ 60) (hr : chain false 0 h = some (tF, bF)) :
    Trip Try.prog 9 none (.block 0 (.loop Bd)) (frL h.length 0) (stL l h by_ tk false 0) fun r => r.1 = .normal ∧ canF [0, 5, 6, 7] r.2.1 = frL h.length h.length ∧ canS [0, 1, 2, 3, 4, 5, 6, 7, 8] r.2.2 = stL l h by_ tk tF bF := by
  refine Trip.block (Trip.loop (fun m fr st => ∃ k t b, k ≤ h.length ∧ m = h.length - k ∧ chain false 0 (h.take k) = some (t, b) ∧ fr = frL h.length k ∧ st = stL l h by_ tk t b) ?_ h.length ⟨0, false, 0, by omega, by omega, rfl, rfl, rfl⟩)
  rintro m fr st ⟨k, t, b, hk, rfl, ht, rfl, rfl⟩
  refine (roundH hs hE hh hk hr ht).mono ?_
  rintro ⟨e, fr', st'⟩ (⟨q1, t2, b2, q2, q3, q4⟩ | ⟨q1, q2⟩)
  · simp only at q3 q4
    subst q3
    exact ⟨h.length - (k + 1), _, _, by omega, q4, k + 1, t2, b2, by omega, rfl, q2, rfl, rfl⟩
  · simp only [canR, Prod.mk.injEq] at q2
    obtain ⟨rfl, q3, q4⟩ := q2
    subst q1
    rw [List.take_length, hr] at ht
    simp only [Option.some.injEq, Prod.mk.injEq] at ht
    obtain ⟨rfl, rfl⟩ := ht
    exact ⟨fun _ => ⟨rfl, q3, q4⟩, fun h => absurd rfl h⟩

noncomputable def F0 (n : Nat) : AFr := { m := putArgs [.slice (some (0, 0)) n (.atl n)] 0 .e, n := 97, defs := [] }
noncomputable def stW (l : H) : ASt := mkSt [(0, .cells (l.flatMap enc) false)] 1
def fl9 : Fl := ⟨[], [], [15], []⟩
noncomputable def pre0 (l : H) (n : Nat) : Tr (Exit × AFr × ASt) := (TM E sm fls fl0 30).ex fl9 none (preC 4 c3) (F0 n) (stW l)
noncomputable def frJ (n : Nat) : AFr := xFr [(0, .slice (some (0, 0)) n (.atl n)), (2, .ptr (some (1, 0))), (3, .ptr (some (2, 0)))] 97
noncomputable def pre5 (l : H) (n : Nat) : Tr (Exit × AFr × ASt) := (TM E sm fls fl0 30).ex fl0 none k5 (frJ n) (stI0 l 0 false)
noncomputable def vcB_s0 (l : H) (n : Nat) : ASt := mkSt [(0, AO.cells (List.flatMap enc l) false), (1, AO.cells [AV.bool false] true), (2, AO.cells [AV.int IntKind.i64 (Int.ofNat 0), AV.bool false, AV.slice none 0 (Cap.known 0), AV.bool true] true)] 3
theorem vcB (l : H) (n : Nat) (Q : Exit × AFr × ASt → Prop) (Q2 : Exit × Option AV → Prop) :
  (ifB (ltF (Int.ofNat 60) (Int.ofNat n)) (Q2 (Exit.ret, some (AV.bool true))) (Q (Exit.normal, xFr [(0, AV.slice (some (0, 0)) n (Cap.atl n)), (2, AV.ptr (some (1, 0))), (3, AV.ptr (some (2, 0)))] 97, vcB_s0 l n))) =
  (pre0 l n).allY (mixQ E Try.f3 [0, 2, 3] [0, 1, 2, 3, 4] Q Q2) (An.b An.nil An.nil) := by kernel_rfl
noncomputable def vcB5_s0 (l : H) (n : Nat) : ASt := mkSt [(0, AO.cells (List.flatMap enc l) false), (1, AO.cells [AV.bool false] true), (2, AO.cells [AV.int IntKind.i64 (Int.ofNat 0), AV.bool false, AV.slice none 0 (Cap.known 0), AV.bool true] true)] 3
theorem vcB5 (l : H) (n : Nat) (Q : Exit × AFr × ASt → Prop) :
  (Q (Exit.normal, xFr [(0, AV.slice (some (0, 0)) n (Cap.atl n)), (2, AV.ptr (some (1, 0))), (3, AV.ptr (some (2, 0))), (4, AV.int IntKind.i64 (Int.ofNat 0))] 97, vcB5_s0 l n)) =
  (pre5 l n).allY (fun r => Q (canR [0, 2, 3, 4] [0, 1, 2] r)) (An.nil) := by kernel_rfl

/-! ### The law, piece by piece -/
def LawQ (r : Exit × AFr × ASt) : Prop := (r.1 = .normal ∨ r.1 = .ret) ∧ ans (leaveA E Try.f3 r.2.1 r.2.2) = some (.bool true)

theorem callH (hs : CallsOK Try.prog sm) (hE : Env.Ok Try.prog E) {l h : H} {by_ : Int} {tk tF : Bool} {bF : Int} (hh : h.length ≤ 60) (hr : chain false 0 h = some (tF, bF)) :
    Trip Try.prog 9 none c53 { m := putArgs [.yield 8, .ptr (some (6, 0))] 0 .e, n := Try.f53.ntmps, defs := [] } (((stK l h by_ tk).add .defd).add (.loop .ready none frK (#[49, 50] : Array Tmp).toList asR boR (stK l h by_ tk).next)) fun r =>
      (r.1 = .normal ∨ r.1 = .ret) ∧ ∃ v, leaveA E Try.f53 r.2.1 r.2.2 = some v ∧ canS [0, 1, 2, 3, 4, 5, 6, 7, 8] v.2 = stL l h by_ tk tF bF := by
  have e1 : Try.f53.ntmps = 18 := by kernel_rfl
  have e2 : AO.loop .ready none frK (#[49, 50] : Array Tmp).toList asR boR (stK l h by_ tk).next = lrec := by kernel_rfl
  have e3 : preC 0 c53 = q0 := by kernel_rfl
  have e4 : dropC 0 c53 = .block 0 (.loop Bd) := by kernel_rfl
  have hvc : (pre3 l h by_ tk).allY (fun r => (canR [0, 5, 6, 7] [0, 1, 2, 3, 4, 5, 6, 7, 8] r) = (.normal, frL h.length 0, stL l h by_ tk false 0)) An.nil := Eq.mp (vcP3 l h by_ tk fun r => r = (.normal, frL h.length 0, stL l h by_ tk false 0)) rfl
  unfold pre3 at hvc
  rw [← e3] at hvc
  rw [e1, e2]
  refine Trip.preY hE hs (k := 0) (by kernel_rfl) (Q1 := fun r => r = (.normal, frL h.length 0, stL l h by_ tk false 0)) hvc (fun F S hq => ?_) (fun r hne hq => ?_)
  · cases hq
    rw [e4]
    refine (loopH hs hE hh hr).mono ?_
    rintro ⟨e, fr', st'⟩ ⟨h1, h2, h3⟩
    simp only at h1 h2 h3
    subst h1
    have hd : fr'.defs = [] := by
      have : (canF [0, 5, 6, 7] fr').defs = (frL h.length h.length).defs := by rw [h2]
      exact this
    exact ⟨.inl rfl, (retV [], st'), by unfold leaveA; rw [hd]; rfl, h3⟩
  · have : r.1 = .normal := congrArg (·.1) hq
    exact absurd this hne

theorem put_get_ne {st : ASt} {i j : Nat} {a : AO} (h : j ≠ i) : (st.put i a).h.get j = st.h.get j := by
  show (st.h.set D i a).get j = _
  rw [T.get_set]; simp [h]

theorem range_part (hs : CallsOK Try.prog sm) (hE : Env.Ok Try.prog E) {l h : H} {by_ : Int} {tk tF : Bool} {bF : Int} (hh : h.length ≤ 60) (hr : chain false 0 h = some (tF, bF)) :
    Trip Try.prog 1 none (.block 2 rng) frK (stK l h by_ tk) fun r => Stops 1 .normal frK2 (stE l h by_ tk tF bF) r := by
  have hrng : rng = .rangeFunc (.tmp 48) #[49, 50] asR boR := by kernel_rfl
  rw [hrng]
  refine Trip.block (Trip.range hE (f := 53) (caps := [.ptr (some (6, 0))]) (by kernel_rfl) (fn := Try.f53) (by kernel_rfl) (cb := c53) (by kernel_rfl) (l := 8) (by kernel_rfl) (by kernel_rfl) (callH hs hE hh hr) ?_)
  intro v hv
  have get : ∀ k x, (stL l h by_ tk tF bF).h.get k = some x → v.2.h.get k = some x := canS_get hv
  refine ⟨.ready, none, frK, [49, 50], asR, boR, 7, get 8 lrec (by kernel_rfl), (fun e => by cases e), rfl, ?_⟩
  have hnx : v.2.next ≤ 9 := by
    have : (canS [0, 1, 2, 3, 4, 5, 6, 7, 8] v.2).next = 9 := by rw [hv]; rfl
    exact Nat.le_of_eq this
  refine Wk.pick (ls := [(1, .cells [.bool false] true), (2, arbA by_ tk (.slice (some (3, 0)) h.length (.rest 2))), (4, .cells [.bool tF] true), (5, .cells [.int .i64 bF] true), (7, .defd)]) (nx := 9) ?_ hnx
  intro p hp
  simp only [List.mem_cons, List.not_mem_nil, or_false] at hp
  rcases hp with rfl | rfl | rfl | rfl | rfl
  all_goals
    rw [put_get_ne (by simp)]
    exact get _ _ (by kernel_rfl)

/-- behind the first loop, where something has happened -/
theorem rest1 (hs : CallsOK Try.prog sm) (hE : Env.Ok Try.prog E) {l h : H} {by_ : Int} {tk : Bool} (h0 : h ≠ []) (hh : h.length ≤ 60) (hinv : Inv h by_ tk) : Trip Try.prog 1 none r6 (frI l.length l.length) (stI l h by_ tk) LawQ := by
  obtain ⟨b, hr, hb⟩ := hinv
  have e4 : dropC 1 r6 = .seq blkR r7 := by kernel_rfl
  have e5 : preC 0 blkR = k17 := by kernel_rfl
  have e6 : dropC 0 blkR = .block 2 rng := by kernel_rfl
  have hv1 : (pre1 l h l.length by_ tk).allY (fun r => Stops 1 .normal frR (stR l h by_ tk) (canR [2, 3, 5, 6] [0, 1, 2, 3, 4, 5] r)) An.nil := Eq.mp (vcP1 l h l.length by_ tk (Stops 1 .normal frR (stR l h by_ tk))) ⟨rfl, by
    refine Wk.heldX [0, 1, 2, 3, 4, 5] rfl rfl [2, 3, 5, 6] (by kernel_rfl) ?_
    exact .cons 0 (.cells (l.flatMap enc) false) rfl (by kernel_rfl) (RenO.row (encRef l)) <| .cons 1 (.cells [.bool false] true) rfl (by kernel_rfl) (RenO.of rfl) <|
      .cons 2 (arbA by_ tk (.slice (some (3, 0)) h.length (.rest 2))) rfl (by kernel_rfl) (RenO.of rfl) <| .cons 3 (.cells (h.flatMap enc) true) rfl (by kernel_rfl) (RenO.row (encRef h)) <|
      .cons 4 (.cells [.bool false] true) rfl (by kernel_rfl) (RenO.of rfl) <| .cons 5 (.cells [.int .i64 0] true) rfl (by kernel_rfl) (RenO.of rfl) .nil⟩
  refine Trip.preY hE hs (k := 1) (by kernel_rfl) (Q1 := Stops 1 .normal frR (stR l h by_ tk)) hv1 (fun F S hq => ?_) (fun r hne hq => absurd hq.1 hne)
  rw [e4]
  refine Trip.less hq.2 ?_
  have hv2 : (pre2 l h by_ tk).allY (fun r => (canR [2, 3, 5, 6, 48] [0, 1, 2, 3, 4, 5, 6] r) = (.normal, frK, stK l h by_ tk)) An.nil := Eq.mp (vcP2 l h by_ tk fun r => r = (.normal, frK, stK l h by_ tk)) rfl
  unfold pre2 at hv2
  rw [← e5] at hv2
  refine Trip.seq (R := Stops 1 .normal frK2 (stE l h by_ tk tk b)) (Trip.preY hE hs (k := 0) (by kernel_rfl) (Q1 := fun r => r = (.normal, frK, stK l h by_ tk)) hv2 (fun F S hq => ?_) (fun r hne hq => absurd (congrArg (·.1) hq) hne)) (fun fr' st' hq => ?_) (fun e fr' st' hne hq => absurd hq.1 hne)
  · cases hq
    rw [e6]
    exact range_part hs hE hh hr
  · refine Trip.less hq.2 ?_
    refine Trip.runY hE hs (Eq.mp (vcE l h by_ tk tk b fun q => (q.1 = .normal ∨ q.1 = .ret) ∧ q.2 = some (.bool true)) ?_)
    have ok : (Exit.ret = .normal ∨ Exit.ret = .ret) ∧ some (AV.bool true) = some (.bool true) := ⟨.inr rfl, rfl⟩
    refine ifB_mk (fun _ => ifB_mk (fun _ => ok) (fun ht => ifB_mk (fun _ => ok) (fun he => absurd (hb (by simpa using ht)) (eqF_f he)))) (fun he => absurd rfl (boolEq_f he))

theorem rest0 (hs : CallsOK Try.prog sm) (hE : Env.Ok Try.prog E) {l : H} {by_ : Int} {tk : Bool} (hinv : Inv [] by_ tk) : Trip Try.prog 1 none r6 (frI l.length l.length) (stI0 l by_ tk) LawQ := by
  obtain ⟨b, hr, hb⟩ := hinv
  simp only [chain, Option.some.injEq, Prod.mk.injEq] at hr
  obtain ⟨rfl, rfl⟩ := hr
  exact Trip.runY hE hs (Eq.mp (vcN l l.length by_ fun q => (q.1 = .normal ∨ q.1 = .ret) ∧ q.2 = some (.bool true)) ⟨.inr rfl, rfl⟩)

theorem law (hs : CallsOK Try.prog sm) (hE : Env.Ok Try.prog E) (l : H) : Trip Try.prog 1 none c3 (F0 l.length) (stW l) LawQ := by
  have e4 : dropC 4 c3 = .seq (.seq k5 (.block 0 (.loop B1))) r6 := by kernel_rfl
  have hv0 : (pre0 l l.length).allY (mixQ E Try.f3 [0, 2, 3] [0, 1, 2, 3, 4] (fun r => l.length ≤ 60 ∧ r = (.normal, frJ l.length, stI0 l 0 false)) (fun q => (q.1 = .normal ∨ q.1 = .ret) ∧ q.2 = some (.bool true))) (An.b An.nil An.nil) :=
    Eq.mp (vcB l l.length _ _) (ifB_mk (fun _ => ⟨.inr rfl, rfl⟩) (fun h => ⟨by have := ltF_f h; have : (l.length : Int) ≤ 60 := this; omega, rfl⟩))
  refine Trip.preM hE hs (k := 4) (by kernel_rfl) hv0 (fun F S hq => ?_) (fun r _ hq => hq)
  obtain ⟨hn, hq⟩ := hq
  cases hq
  rw [e4]
  have h5 : Trip Try.prog 1 none k5 (frJ l.length) (stI0 l 0 false) fun r => Stops 1 .normal (frI l.length 0) (stJ l [] 0 false) r :=
    (Trip.runY hE hs (Eq.mp (vcB5 l l.length (Stops 1 .normal (frI l.length 0) (stJ l [] 0 false))) ⟨rfl, Wk.refl _ _ _⟩)).mono fun r hr => hr.can
  refine Trip.seq (R := fun r => ∃ h by_ tk, h.length ≤ l.length ∧ Inv h by_ tk ∧ Stops 1 .normal (frI l.length l.length) (stJ l h by_ tk) r)
    (Trip.seq (R := Stops 1 .normal (frI l.length 0) (stJ l [] 0 false)) h5 (fun fr' st' hq => Trip.less hq.2 (loop1 hs hE hn)) (fun e fr' st' hne hq => absurd hq.1 hne)) (fun fr' st' hq => ?_) (fun e fr' st' hne hq => ?_)
  · obtain ⟨h, by_, tk, hl, hinv, _, hw⟩ := hq
    refine Trip.less hw ?_
    cases h with
    | nil => exact rest0 hs hE hinv
    | cons g h => exact rest1 hs hE (by simp) (by omega) hinv
  · obtain ⟨h, by_, tk, hl, hinv, he, hw⟩ := hq
    exact absurd he hne

/-! ### The environment; the chapter's row -/
theorem fnsOk : AllFn Try.prog fns :=
  ⟨⟨Try.func3, Try.call3⟩, ⟨Try.func9, Try.call9⟩, ⟨Try.func10, Try.call10⟩, ⟨Try.func11, Try.call11⟩, ⟨Try.func12, Try.call12⟩, ⟨Try.func13, Try.call13⟩, ⟨Try.func14, Try.call14⟩, ⟨Try.func15, Try.call15⟩, ⟨Try.func39, Try.call39⟩, ⟨Try.func40, Try.call40⟩, ⟨Try.func41, Try.call41⟩, ⟨Try.func42, Try.call42⟩, ⟨Try.func53, Try.call53⟩, trivial⟩
theorem mixed : Try.prog.follows .mixedOrders = true := by kernel_rfl
theorem Eok : Env.Ok Try.prog E := envEx_ok (xs := []) fnsOk trivial mixed
theorem known : MemoOK Try.prog ⟨9, [], .bool true⟩ := memo_ok (n := 60) Eok noSum_ok Try.call9 (by kernel_rfl) (by kernel_rfl)
theorem sm_ok : CallsOK Try.prog sm := sumC_ok (l := [⟨9, [], .bool true⟩]) ⟨known, trivial⟩

/-! ### The call -/
section
open Go.ChangeShapes Go.WideShapes Go.ChangeAt Go.RowKit Go.Deep
theorem run_nil : isTrue ((M E (drawA E) sm 60).call 3 [.slice none 0 (.known 0)] st0) = true := by kernel_rfl
theorem run_zero : isTrue ((M E (drawA E) sm 60).call 3 [.slice0] st0) = true := by kernel_rfl

theorem VRs_one {ι : Ren} {a : AV} {v : Value} (h : VR ι a v) : VRs ι [a] #[v] :=
  ⟨rfl, fun i x x' hx hx' => by
    match i with
    | 0 => simp at hx hx'; subst hx; subst hx'; exact h
    | i + 1 => simp at hx⟩

theorem own : ownKnob Try.prog.godebug = none := by kernel_rfl
theorem laidOut : laidOutB Try.prog = true := by kernel_rfl
theorem same_below {W W' : World} (h : Below W.heap.size W W') {p : MemPlace} (hp : p.block < W.heap.size) : W.sameAt W' p := by
  cases p with
  | cell b off => exact h.cell (p := ⟨b, off, none⟩) hp
  | map b => exact h.block b hp

theorem walk_row {W : World} {b off cap : Nat} {l : H} (h0 : l ≠ []) (hc : l.length ≤ cap) (hrow : RowAt W b off (l.flatMap enc)) :
    Calls Try.prog 3 #[.slice (some ⟨b, off, none⟩) l.length cap] W fun e w' => e = .returned (.bool true) ∧ Below W.heap.size W w' := by
  have hne : l.flatMap enc ≠ [] := by cases l with | nil => exact absurd rfl h0 | cons x xs => simp [enc]
  have hgl : GlobOK W := by intro _ _ h; cases h
  have hsr : SR (roB W [b]) W (rowRen W [(b, off, l.flatMap enc)]) (stW l) W := rows_ok hgl (rows := [(b, off, l.flatMap enc)]) (fun r hr => by simp at hr; subst hr; exact ⟨hne, hrow⟩) rfl (fun i a hi => by
    have hg : (stW l).h.get i = if i = 0 then some (.cells (l.flatMap enc) false) else none := by
      show (T.set D .e 0 _).get i = _
      rw [T.get_set, T.get_e]
    rw [hg] at hi
    by_cases e : i = 0
    · subst e; simp at hi; subst hi; exact ⟨_, rfl, rfl⟩
    · simp [e] at hi)
  obtain ⟨tot, ht⟩ := rowRen_at (rows := [(b, off, l.flatMap enc)]) (i := 0) rfl hne hrow
  have hv : VR (rowRen W [(b, off, l.flatMap enc)]) (.slice (some (0, 0)) l.length (.atl l.length)) (.slice (some ⟨b, off, none⟩) l.length cap) := by
    have := VR.slice (ι := rowRen W [(b, off, l.flatMap enc)]) 0 0 l.length cap ⟨b, off, tot⟩ (.atl l.length) ht hc hc
    simpa using this
  have hfr : ({ m := putArgs [.slice (some (0, 0)) l.length (.atl l.length)] 0 .e, n := Try.f3.ntmps, defs := [] } : AFr) = F0 l.length := by kernel_rfl
  refine law_calls Eok (fn := Try.f3) (by kernel_rfl) (c := c3) (by kernel_rfl) (by kernel_rfl) (fun _ h => h) (fun k hk => .inr hk) hsr (VRs_one hv) ?_
  rw [hfr]
  exact law sm_ok Eok l

theorem walk {W : World} {a : Addr} {len cap : Nat} {V0 V1 : Nat → Value} (hl : len ≤ cap) (hi : ∀ i, i < len → W.cell? (a.add (i * 2)) = some (V0 i) ∧ W.cell? (a.add (i * 2 + 1)) = some (V1 i) ∧ (∃ z, V0 i = .int .i64 z) ∧ ∃ t, V1 i = .bool t) :
    Calls Try.prog 3 #[.slice (some a) len cap] W fun e w' => e = .returned (.bool true) ∧ Below W.heap.size W w' := by
  by_cases h0 : len = 0
  · subst h0
    exact run_args Eok sm_ok (VRs_one (.slice0 a cap)) run_zero W
  · have hz : ∃ f : Nat → Int × Bool, ∀ i, i < len → V0 i = .int .i64 (f i).1 ∧ V1 i = .bool (f i).2 := by
      refine ⟨fun i => (match V0 i with | .int _ z => z | _ => 0, match V1 i with | .bool t => t | _ => false), fun i hlt => ?_⟩
      obtain ⟨_, _, ⟨z, hz⟩, t, ht⟩ := hi i hlt
      simp only [hz, ht, and_self]
    obtain ⟨f, hf⟩ := hz
    obtain ⟨b, off, spot⟩ := a
    have hsp : spot = none := by
      have := (hi 0 (by omega)).1
      cases spot with
      | none => rfl
      | some s =>
        unfold World.cell? at this
        simp only [Addr.add, Option.isSome_some, if_true] at this
        split at this <;> cases this
    subst hsp
    have hlen : ((List.range len).map f).length = len := by simp
    have := walk_row (W := W) (b := b) (off := off) (cap := cap) (l := (List.range len).map f) (by intro e; have := congrArg List.length e; simp at this; omega) (by simp; exact hl) (fun k v hk => ?_)
    · rw [hlen] at this; exact this
    · have hk2 : k < len * 2 := by
        have := (List.getElem?_eq_some_iff.1 hk).1
        rw [fm_len encLen, hlen] at this; exact this
      have hd : k = k / 2 * 2 + k % 2 := by omega
      have hk3 : k / 2 < len := by omega
      have hx : ((List.range len).map f)[k / 2]? = some (f (k / 2)) := by simp [hk3]
      obtain ⟨c0, c1, _⟩ := hi (k / 2) (by omega)
      obtain ⟨f0, f1⟩ := hf (k / 2) (by omega)
      rcases Nat.mod_two_eq_zero_or_one k with e | e
      · have h2 := fm_get (enc := enc) encLen hx (r := 0) rfl
        rw [show k / 2 * 2 + 0 = k by omega, hk] at h2
        simp only [Option.some.injEq] at h2
        subst h2
        refine ⟨rfl, _, ?_, fun ι => .int _ _⟩
        rw [← f0, ← c0, add_none]
        congr 2; omega
      · have h2 := fm_get (enc := enc) encLen hx (r := 1) rfl
        rw [show k / 2 * 2 + 1 = k by omega, hk] at h2
        simp only [Option.some.injEq] at h2
        subst h2
        refine ⟨rfl, _, ?_, fun ι => .bool _⟩
        rw [← f1, ← c1, add_none]
        congr 2; omega

/-! ### The row's step -/
set_option maxRecDepth 100000 in
theorem lifted (os : Os) (started : os.Started) (H : Type) (enc : TypeId × Value → H) :
    ReturnsInHanded {} Try.checked os 3 .any (Rows.arbiterMeansSpec.pre6 enc Try.prog Try.f3 Rows.arbiterMeansRow.domain false) (Rows.arbiterMeansSpec.post enc Try.prog Try.f3 false true false false) := by
  refine returnsInHanded_of_change (C := Try.checked) own started (by kernel_rfl) Try.func3
    (ChangeSpec.witness6 (enc := enc) (C := Try.checked) false ⟨#[], #[.slice none 0 0], []⟩ 8 (by kernel_rfl) (by kernel_rfl) (by kernel_rfl) (by kernel_rfl)) ?_
  intro W base args ds gs before hval0 hW hcnd _
  have hval : ∀ (j : Nat) t v, Try.f3.params[j]? = some t → args[j]? = some v → Value.okWide Try.prog W .any base t v := hval0
  have hW' := hW
  obtain ⟨p, q, hA0, hV, rfl, hfz, hnd⟩ := hW
  have hA : DataW.TrodAll enc Try.prog W 0 (fun _ => true) true Try.f3.params.toList args.toList ds p := hA0
  rw [Try.params3] at hA hval
  obtain ⟨v0, d0, rfl, rfl, h0⟩ := trodAll_one hA
  obtain ⟨rfl, rfl⟩ := trodVars_none hV
  obtain ⟨a0, len, cap, rfl⟩ := okWide_slice Try.underlying22 (hval 0 22 v0 rfl rfl)
  have h0k := h0
  obtain ⟨fu0, hf0⟩ := h0
  clear hA0 hval0
  simp only [List.append_nil] at hW'
  have hlt : ∀ x ∈ p, x.block < W.heap.size := fun x hx => by simpa using hW'.lt x hx
  have hcalls : Calls Try.prog 3 #[.slice a0 len cap] W fun e w' => e = .returned (.bool true) ∧ Below W.heap.size W w' := by
    rcases open_slice_pairs Try.underlying22 Try.underlying27 (by kernel_rfl) rfl rfl (by kernel_rfl) (by kernel_rfl) hf0 with ⟨hcs, _⟩ | ⟨a, len', cap', m, n, V0, V1, D0, D1, P0, P1, hcs, _, hl, _, hm, hx, hi⟩
    · simp [Value.cells] at hcs
      obtain ⟨rfl, rfl, rfl⟩ := hcs
      exact run_args Eok sm_ok (VRs_one .sliceN) run_nil W
    · simp [Value.cells] at hcs
      obtain ⟨rfl, rfl, rfl⟩ := hcs
      refine walk (V0 := V0) (V1 := V1) hl fun i hlt => ?_
      obtain ⟨g0, g1, g2, g3⟩ := hi i (by rw [hm]; split <;> omega)
      obtain ⟨z, e1, _⟩ := DataW.trod_int Try.underlying3 g2
      obtain ⟨t, e2, _⟩ := DataW.trod_bool Try.underlying4 g3
      exact ⟨g0, g1, ⟨z, by simpa using e1⟩, t, by simpa using e2⟩
  refine hcalls.mono fun e W' ⟨he, bel⟩ => ?_
  subst he
  have ARG : DataW.Trod enc Try.prog W' 0 (fun x => decide (x < W.heap.size)) true 22 (.slice a0 len cap) d0 p :=
    WideElems.Trod_stays laidOut (by kernel_rfl) (of_decide_eq_true (by kernel_rfl)) h0k (fun x hx => same_below bel (hlt x hx)) (fun x hx => by simpa using hlt x hx)
  exact ⟨_, rfl, _, _, _, [], _, [], hW', trodAll_mk1 (shut_bool Try.underlying4 _), trodAll_mk1 ARG, rfl, bel.frame _, fun h => by cases h⟩

theorem over : Rows.arbiterMeansRow.holds Try.pinned (OpenSpec.ofChange Rows.arbiterMeansSpec) :=
  OpenClaim.holds_of_wide 3 Try.f3 rfl rfl rfl rfl rfl rfl rfl ⟨rfl, rfl, rfl, rfl, rfl⟩ rfl rfl rfl rfl rfl (by kernel_rfl) Try.func3 (by kernel_rfl)
    (of_decide_eq_true (by kernel_rfl)) (by unfold Func.isWrapper; first | (rw [if_pos (by decide +kernel)]; kernel_rfl) | (rw [if_neg (by decide +kernel)]; exact ⟨rfl, rfl⟩))
    (fun os started H enc _ => lifted os started H enc)

/-- THE STATEMENT -/
theorem proved : Rows.ArbiterMeansSaid := over
end
#print axioms proved
end Go.Proofs.Ytidmijpfoodkoaa.arb
