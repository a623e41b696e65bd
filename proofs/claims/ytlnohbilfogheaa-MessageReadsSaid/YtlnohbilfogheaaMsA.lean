/-
  OWN WORK, A PART: an abstract machine for the program's text that the kernel can run, and the proof that it is sound: what it answers is what the program answers; contracts of functions by it. No condition.
-/
import Derived.Test.YtlnohbilfogheaaRows
import Derived.Test.YtlnohbilfogheaaWaF
import Derived.KernelRfl
section
open Go Go.Ax Go.Proofs.Ytlnohbilfogheaa
namespace Go.Proofs.Ytlnohbilfogheaa.rdr
set_option linter.unusedVariables false
noncomputable def fns : List (Nat × Func) := [(93, Try.f93), (78, Try.f78), (62, Try.f62)]
noncomputable def E : Env := envEx Try.prog [0, 3, 4, 5, 25, 28, 106, 140, 141] fns []
def fl0 : Fl := ⟨[], [], [], []⟩
def nI (n : Nat) : AV := .int .i64 (.ofNat n)
noncomputable def flsC : List (Nat × Fl) := [(93, ⟨[29, 41, 48, 4095], [], [30], []⟩)]
noncomputable def rd (V : AV) (bad : Bool) : AO := .cells [V, .bool bad, .bool true] true
noncomputable def stR (R : AO) (V : AV) (bad : Bool) : ASt := mkSt [(0, R), (1, rd V bad)] 2
noncomputable def tCb (s : Nat) (V : AV) (R : AO) : Tr (AV × ASt) := (TM E noSum [(93, fl0)] fl0 60).call 93 [.ptr (some (1, 0)), nI s] (stR R V true)
noncomputable def tC (n s : Nat) (V V' W : AV) (R : AO) : Tr (AV × ASt) := (TM E noSum flsC fl0 60).call 93 [.ptr (some (1, 0)), nI s] (stR R V false)
noncomputable def flsN : List (Nat × Fl) := [(93, ⟨[29, 41, 48, 4095], [], [30], []⟩), (62, ⟨[17, 18], [13], [], []⟩)]
noncomputable def tN1 (n o : Nat) (b0 : Int) (V V' : AV) (R : AO) : Tr (AV × ASt) := (TM E noSum flsN fl0 60).call 62 [.ptr (some (1, 0)), nI 1] (stR R V false)
noncomputable def tN2 (n o : Nat) (b0 b1 : Int) (V V' : AV) (R : AO) : Tr (AV × ASt) := (TM E noSum flsN fl0 60).call 62 [.ptr (some (1, 0)), nI 2] (stR R V false)
noncomputable def tN8 (n o : Nat) (b0 b1 b2 b3 b4 b5 b6 b7 : Int) (V V' : AV) (R : AO) : Tr (AV × ASt) := (TM E noSum flsN fl0 60).call 62 [.ptr (some (1, 0)), nI 8] (stR R V false)
noncomputable def tNb1 (V : AV) (R : AO) : Tr (AV × ASt) := (TM E noSum [(93, fl0), (62, fl0)] fl0 60).call 62 [.ptr (some (1, 0)), nI 1] (stR R V true)
noncomputable def tNb2 (V : AV) (R : AO) : Tr (AV × ASt) := (TM E noSum [(93, fl0), (62, fl0)] fl0 60).call 62 [.ptr (some (1, 0)), nI 2] (stR R V true)
noncomputable def tNb8 (V : AV) (R : AO) : Tr (AV × ASt) := (TM E noSum [(93, fl0), (62, fl0)] fl0 60).call 62 [.ptr (some (1, 0)), nI 8] (stR R V true)
noncomputable def vcCb_s0 (s : Nat) (V : AV) (R : AO) : ASt := mkSt [(0, R), (1, AO.cells [V, AV.bool true, AV.bool true] true)] 2
theorem vcCb (s : Nat) (V : AV) (R : AO) (Q : AV × ASt → Prop) :
  (Q (AV.slice none 0 (Cap.known 0), vcCb_s0 s V R)) =
  (tCb s V R).allY (fun r => Q (r.1, canS [0, 1] r.2)) (An.nil) := by kernel_rfl
noncomputable def vcC_s0 (n : Nat) (s : Nat) (V : AV) (V' : AV) (W : AV) (R : AO) : ASt := mkSt [(0, R), (1, AO.cells [V, AV.bool false, AV.bool true] true)] 2
noncomputable def vcC_s1 (n : Nat) (s : Nat) (V : AV) (V' : AV) (W : AV) (R : AO) : ASt := mkSt [(0, R), (1, AO.cells [V, AV.bool true, AV.bool true] true)] 2
noncomputable def vcC_s2 (n : Nat) (s : Nat) (V : AV) (V' : AV) (W : AV) (R : AO) : ASt := mkSt [(0, R), (1, AO.cells [V', AV.bool false, AV.bool true] true)] 2
theorem vcC (n : Nat) (s : Nat) (V : AV) (V' : AV) (W : AV) (R : AO) (Q : AV × ASt → Prop) :
  (aBuiltinM E Builtin.len [25] [V] (vcC_s0 n s V V' W R) = some (AV.int IntKind.i64 (Int.ofNat n), vcC_s0 n s V V' W R) ∧ ifB (ltF (Int.ofNat n) (Int.ofNat s)) (Option.map (fun s => (undefA, s)) (aStore E 4 (AV.ptr (some (1, 1))) (AV.bool true) (vcC_s0 n s V V' W R)) = some (AV.tuple [], vcC_s1 n s V V' W R) ∧ Q (AV.slice none 0 (Cap.known 0), vcC_s1 n s V V' W R)) (still (vcC_s0 n s V V' W R) (aSlice E 25 V none (some (AV.int IntKind.i64 (Int.ofNat s))) (some (AV.int IntKind.i64 (Int.ofNat s))) (vcC_s0 n s V V' W R)) = some (W, vcC_s0 n s V V' W R) ∧ still (vcC_s0 n s V V' W R) (aSlice E 25 V (some (AV.int IntKind.i64 (Int.ofNat s))) none none (vcC_s0 n s V V' W R)) = some (V', vcC_s0 n s V V' W R) ∧ Option.map (fun s => (undefA, s)) (aStore E 25 (AV.ptr (some (1, 0))) V' (vcC_s0 n s V V' W R)) = some (AV.tuple [], vcC_s2 n s V V' W R) ∧ Q (W, vcC_s2 n s V V' W R))) =
  (tC n s V V' W R).allY (fun r => Q (r.1, canS [0, 1] r.2)) (An.v (AV.int IntKind.i64 (Int.ofNat n), vcC_s0 n s V V' W R) (An.b (An.v (AV.tuple [], vcC_s1 n s V V' W R) An.nil) (An.v (W, vcC_s0 n s V V' W R) (An.v (V', vcC_s0 n s V V' W R) (An.v (AV.tuple [], vcC_s2 n s V V' W R) An.nil))))) := by kernel_rfl
noncomputable def vcNb1_s0 (V : AV) (R : AO) : ASt := mkSt [(0, R), (1, AO.cells [V, AV.bool true, AV.bool true] true)] 2
theorem vcNb1 (V : AV) (R : AO) (Q : AV × ASt → Prop) :
  (Q (AV.int IntKind.u64 (Int.ofNat 0), vcNb1_s0 V R)) =
  (tNb1 V R).allY (fun r => Q (r.1, canS [0, 1] r.2)) (An.nil) := by kernel_rfl
noncomputable def vcNb2_s0 (V : AV) (R : AO) : ASt := mkSt [(0, R), (1, AO.cells [V, AV.bool true, AV.bool true] true)] 2
theorem vcNb2 (V : AV) (R : AO) (Q : AV × ASt → Prop) :
  (Q (AV.int IntKind.u64 (Int.ofNat 0), vcNb2_s0 V R)) =
  (tNb2 V R).allY (fun r => Q (r.1, canS [0, 1] r.2)) (An.nil) := by kernel_rfl
noncomputable def vcNb8_s0 (V : AV) (R : AO) : ASt := mkSt [(0, R), (1, AO.cells [V, AV.bool true, AV.bool true] true)] 2
theorem vcNb8 (V : AV) (R : AO) (Q : AV × ASt → Prop) :
  (Q (AV.int IntKind.u64 (Int.ofNat 0), vcNb8_s0 V R)) =
  (tNb8 V R).allY (fun r => Q (r.1, canS [0, 1] r.2)) (An.nil) := by kernel_rfl
noncomputable def vcN1_s0 (n : Nat) (o : Nat) (b0 : Int) (V : AV) (V' : AV) (R : AO) : ASt := mkSt [(0, R), (1, AO.cells [V, AV.bool false, AV.bool true] true)] 2
noncomputable def vcN1_s1 (n : Nat) (o : Nat) (b0 : Int) (V : AV) (V' : AV) (R : AO) : ASt := mkSt [(0, R), (1, AO.cells [V, AV.bool true, AV.bool true] true)] 2
noncomputable def vcN1_s2 (n : Nat) (o : Nat) (b0 : Int) (V : AV) (V' : AV) (R : AO) : ASt := mkSt [(0, R), (1, AO.cells [V', AV.bool false, AV.bool true] true)] 2
theorem vcN1 (n : Nat) (o : Nat) (b0 : Int) (V : AV) (V' : AV) (R : AO) (Q : AV × ASt → Prop) :
  (aBuiltinM E Builtin.len [25] [V] (vcN1_s0 n o b0 V V' R) = some (AV.int IntKind.i64 (Int.ofNat n), vcN1_s0 n o b0 V V' R) ∧ ifB (ltF (Int.ofNat n) (Int.ofNat 1)) (Option.map (fun s => (undefA, s)) (aStore E 4 (AV.ptr (some (1, 1))) (AV.bool true) (vcN1_s0 n o b0 V V' R)) = some (AV.tuple [], vcN1_s1 n o b0 V V' R) ∧ Q (AV.int IntKind.u64 (Int.ofNat 0), vcN1_s1 n o b0 V V' R)) (still (vcN1_s0 n o b0 V V' R) (aSlice E 25 V none (some (AV.int IntKind.i64 (Int.ofNat 1))) (some (AV.int IntKind.i64 (Int.ofNat 1))) (vcN1_s0 n o b0 V V' R)) = some (AV.slice (some (0, o)) 1 (Cap.known 1), vcN1_s0 n o b0 V V' R) ∧ still (vcN1_s0 n o b0 V V' R) (aSlice E 25 V (some (AV.int IntKind.i64 (Int.ofNat 1))) none none (vcN1_s0 n o b0 V V' R)) = some (V', vcN1_s0 n o b0 V V' R) ∧ Option.map (fun s => (undefA, s)) (aStore E 25 (AV.ptr (some (1, 0))) V' (vcN1_s0 n o b0 V V' R)) = some (AV.tuple [], vcN1_s2 n o b0 V V' R) ∧ still (vcN1_s2 n o b0 V V' R) (aIndexAddr E 25 (AV.slice (some (0, o)) 1 (Cap.known 1)) (AV.int IntKind.i64 (Int.ofNat 0))) = some (AV.ptr (some (0, o + 0)), vcN1_s2 n o b0 V V' R) ∧ aLoad E 5 (AV.ptr (some (0, o + 0))) (vcN1_s2 n o b0 V V' R) = some (AV.int IntKind.u8 b0, vcN1_s2 n o b0 V V' R) ∧ Q (AV.int IntKind.u64 (wrapF IntKind.u64 (Int.ofNat (Nat.lor 0 (modN (wrapF IntKind.u64 b0) 18446744073709551616)))), vcN1_s2 n o b0 V V' R))) =
  (tN1 n o b0 V V' R).allY (fun r => Q (r.1, canS [0, 1] r.2)) (An.v (AV.int IntKind.i64 (Int.ofNat n), vcN1_s0 n o b0 V V' R) (An.b (An.v (AV.tuple [], vcN1_s1 n o b0 V V' R) An.nil) (An.v (AV.slice (some (0, o)) 1 (Cap.known 1), vcN1_s0 n o b0 V V' R) (An.v (V', vcN1_s0 n o b0 V V' R) (An.v (AV.tuple [], vcN1_s2 n o b0 V V' R) (An.v (AV.ptr (some (0, o + 0)), vcN1_s2 n o b0 V V' R) (An.v (AV.int IntKind.u8 b0, vcN1_s2 n o b0 V V' R) An.nil))))))) := by kernel_rfl
noncomputable def vcN2_s0 (n : Nat) (o : Nat) (b0 : Int) (b1 : Int) (V : AV) (V' : AV) (R : AO) : ASt := mkSt [(0, R), (1, AO.cells [V, AV.bool false, AV.bool true] true)] 2
noncomputable def vcN2_s1 (n : Nat) (o : Nat) (b0 : Int) (b1 : Int) (V : AV) (V' : AV) (R : AO) : ASt := mkSt [(0, R), (1, AO.cells [V, AV.bool true, AV.bool true] true)] 2
noncomputable def vcN2_s2 (n : Nat) (o : Nat) (b0 : Int) (b1 : Int) (V : AV) (V' : AV) (R : AO) : ASt := mkSt [(0, R), (1, AO.cells [V', AV.bool false, AV.bool true] true)] 2
theorem vcN2 (n : Nat) (o : Nat) (b0 : Int) (b1 : Int) (V : AV) (V' : AV) (R : AO) (Q : AV × ASt → Prop) :
  (aBuiltinM E Builtin.len [25] [V] (vcN2_s0 n o b0 b1 V V' R) = some (AV.int IntKind.i64 (Int.ofNat n), vcN2_s0 n o b0 b1 V V' R) ∧ ifB (ltF (Int.ofNat n) (Int.ofNat 2)) (Option.map (fun s => (undefA, s)) (aStore E 4 (AV.ptr (some (1, 1))) (AV.bool true) (vcN2_s0 n o b0 b1 V V' R)) = some (AV.tuple [], vcN2_s1 n o b0 b1 V V' R) ∧ Q (AV.int IntKind.u64 (Int.ofNat 0), vcN2_s1 n o b0 b1 V V' R)) (still (vcN2_s0 n o b0 b1 V V' R) (aSlice E 25 V none (some (AV.int IntKind.i64 (Int.ofNat 2))) (some (AV.int IntKind.i64 (Int.ofNat 2))) (vcN2_s0 n o b0 b1 V V' R)) = some (AV.slice (some (0, o)) 2 (Cap.known 2), vcN2_s0 n o b0 b1 V V' R) ∧ still (vcN2_s0 n o b0 b1 V V' R) (aSlice E 25 V (some (AV.int IntKind.i64 (Int.ofNat 2))) none none (vcN2_s0 n o b0 b1 V V' R)) = some (V', vcN2_s0 n o b0 b1 V V' R) ∧ Option.map (fun s => (undefA, s)) (aStore E 25 (AV.ptr (some (1, 0))) V' (vcN2_s0 n o b0 b1 V V' R)) = some (AV.tuple [], vcN2_s2 n o b0 b1 V V' R) ∧ still (vcN2_s2 n o b0 b1 V V' R) (aIndexAddr E 25 (AV.slice (some (0, o)) 2 (Cap.known 2)) (AV.int IntKind.i64 (Int.ofNat 0))) = some (AV.ptr (some (0, o + 0)), vcN2_s2 n o b0 b1 V V' R) ∧ aLoad E 5 (AV.ptr (some (0, o + 0))) (vcN2_s2 n o b0 b1 V V' R) = some (AV.int IntKind.u8 b0, vcN2_s2 n o b0 b1 V V' R) ∧ still (vcN2_s2 n o b0 b1 V V' R) (aIndexAddr E 25 (AV.slice (some (0, o)) 2 (Cap.known 2)) (AV.int IntKind.i64 (Int.ofNat 1))) = some (AV.ptr (some (0, o + 1)), vcN2_s2 n o b0 b1 V V' R) ∧ aLoad E 5 (AV.ptr (some (0, o + 1))) (vcN2_s2 n o b0 b1 V V' R) = some (AV.int IntKind.u8 b1, vcN2_s2 n o b0 b1 V V' R) ∧ Q (AV.int IntKind.u64 (wrapF IntKind.u64 (Int.ofNat (Nat.lor (modN (shlF IntKind.u64 (wrapF IntKind.u64 (Int.ofNat (Nat.lor 0 (modN (wrapF IntKind.u64 b0) 18446744073709551616)))) 8) 18446744073709551616) (modN (wrapF IntKind.u64 b1) 18446744073709551616)))), vcN2_s2 n o b0 b1 V V' R))) =
  (tN2 n o b0 b1 V V' R).allY (fun r => Q (r.1, canS [0, 1] r.2)) (An.v (AV.int IntKind.i64 (Int.ofNat n), vcN2_s0 n o b0 b1 V V' R) (An.b (An.v (AV.tuple [], vcN2_s1 n o b0 b1 V V' R) An.nil) (An.v (AV.slice (some (0, o)) 2 (Cap.known 2), vcN2_s0 n o b0 b1 V V' R) (An.v (V', vcN2_s0 n o b0 b1 V V' R) (An.v (AV.tuple [], vcN2_s2 n o b0 b1 V V' R) (An.v (AV.ptr (some (0, o + 0)), vcN2_s2 n o b0 b1 V V' R) (An.v (AV.int IntKind.u8 b0, vcN2_s2 n o b0 b1 V V' R) (An.v (AV.ptr (some (0, o + 1)), vcN2_s2 n o b0 b1 V V' R) (An.v (AV.int IntKind.u8 b1, vcN2_s2 n o b0 b1 V V' R) An.nil))))))))) := by kernel_rfl
noncomputable def vcN8_s0 (n : Nat) (o : Nat) (b0 : Int) (b1 : Int) (b2 : Int) (b3 : Int) (b4 : Int) (b5 : Int) (b6 : Int) (b7 : Int) (V : AV) (V' : AV) (R : AO) : ASt := mkSt [(0, R), (1, AO.cells [V, AV.bool false, AV.bool true] true)] 2
noncomputable def vcN8_s1 (n : Nat) (o : Nat) (b0 : Int) (b1 : Int) (b2 : Int) (b3 : Int) (b4 : Int) (b5 : Int) (b6 : Int) (b7 : Int) (V : AV) (V' : AV) (R : AO) : ASt := mkSt [(0, R), (1, AO.cells [V, AV.bool true, AV.bool true] true)] 2
noncomputable def vcN8_s2 (n : Nat) (o : Nat) (b0 : Int) (b1 : Int) (b2 : Int) (b3 : Int) (b4 : Int) (b5 : Int) (b6 : Int) (b7 : Int) (V : AV) (V' : AV) (R : AO) : ASt := mkSt [(0, R), (1, AO.cells [V', AV.bool false, AV.bool true] true)] 2
theorem vcN8 (n : Nat) (o : Nat) (b0 : Int) (b1 : Int) (b2 : Int) (b3 : Int) (b4 : Int) (b5 : Int) (b6 : Int) (b7 : Int) (V : AV) (V' : AV) (R : AO) (Q : AV × ASt → Prop) :
  (aBuiltinM E Builtin.len [25] [V] (vcN8_s0 n o b0 b1 b2 b3 b4 b5 b6 b7 V V' R) = some (AV.int IntKind.i64 (Int.ofNat n), vcN8_s0 n o b0 b1 b2 b3 b4 b5 b6 b7 V V' R) ∧ ifB (ltF (Int.ofNat n) (Int.ofNat 8)) (Option.map (fun s => (undefA, s)) (aStore E 4 (AV.ptr (some (1, 1))) (AV.bool true) (vcN8_s0 n o b0 b1 b2 b3 b4 b5 b6 b7 V V' R)) = some (AV.tuple [], vcN8_s1 n o b0 b1 b2 b3 b4 b5 b6 b7 V V' R) ∧ Q (AV.int IntKind.u64 (Int.ofNat 0), vcN8_s1 n o b0 b1 b2 b3 b4 b5 b6 b7 V V' R)) (still (vcN8_s0 n o b0 b1 b2 b3 b4 b5 b6 b7 V V' R) (aSlice E 25 V none (some (AV.int IntKind.i64 (Int.ofNat 8))) (some (AV.int IntKind.i64 (Int.ofNat 8))) (vcN8_s0 n o b0 b1 b2 b3 b4 b5 b6 b7 V V' R)) = some (AV.slice (some (0, o)) 8 (Cap.known 8), vcN8_s0 n o b0 b1 b2 b3 b4 b5 b6 b7 V V' R) ∧ still (vcN8_s0 n o b0 b1 b2 b3 b4 b5 b6 b7 V V' R) (aSlice E 25 V (some (AV.int IntKind.i64 (Int.ofNat 8))) none none (vcN8_s0 n o b0 b1 b2 b3 b4 b5 b6 b7 V V' R)) = some (V', vcN8_s0 n o b0 b1 b2 b3 b4 b5 b6 b7 V V' R) ∧ Option.map (fun s => (undefA, s)) (aStore E 25 (AV.ptr (some (1, 0))) V' (vcN8_s0 n o b0 b1 b2 b3 b4 b5 b6 b7 V V' R)) = some (AV.tuple [], vcN8_s2 n o b0 b1 b2 b3 b4 b5 b6 b7 V V' R) ∧ still (vcN8_s2 n o b0 b1 b2 b3 b4 b5 b6 b7 V V' R) (aIndexAddr E 25 (AV.slice (some (0, o)) 8 (Cap.known 8)) (AV.int IntKind.i64 (Int.ofNat 0))) = some (AV.ptr (some (0, o + 0)), vcN8_s2 n o b0 b1 b2 b3 b4 b5 b6 b7 V V' R) ∧ aLoad E 5 (AV.ptr (some (0, o + 0))) (vcN8_s2 n o b0 b1 b2 b3 b4 b5 b6 b7 V V' R) = some (AV.int IntKind.u8 b0, vcN8_s2 n o b0 b1 b2 b3 b4 b5 b6 b7 V V' R) ∧ still (vcN8_s2 n o b0 b1 b2 b3 b4 b5 b6 b7 V V' R) (aIndexAddr E 25 (AV.slice (some (0, o)) 8 (Cap.known 8)) (AV.int IntKind.i64 (Int.ofNat 1))) = some (AV.ptr (some (0, o + 1)), vcN8_s2 n o b0 b1 b2 b3 b4 b5 b6 b7 V V' R) ∧ aLoad E 5 (AV.ptr (some (0, o + 1))) (vcN8_s2 n o b0 b1 b2 b3 b4 b5 b6 b7 V V' R) = some (AV.int IntKind.u8 b1, vcN8_s2 n o b0 b1 b2 b3 b4 b5 b6 b7 V V' R) ∧ still (vcN8_s2 n o b0 b1 b2 b3 b4 b5 b6 b7 V V' R) (aIndexAddr E 25 (AV.slice (some (0, o)) 8 (Cap.known 8)) (AV.int IntKind.i64 (Int.ofNat 2))) = some (AV.ptr (some (0, o + 2)), vcN8_s2 n o b0 b1 b2 b3 b4 b5 b6 b7 V V' R) ∧ aLoad E 5 (AV.ptr (some (0, o + 2))) (vcN8_s2 n o b0 b1 b2 b3 b4 b5 b6 b7 V V' R) = some (AV.int IntKind.u8 b2, vcN8_s2 n o b0 b1 b2 b3 b4 b5 b6 b7 V V' R) ∧ still (vcN8_s2 n o b0 b1 b2 b3 b4 b5 b6 b7 V V' R) (aIndexAddr E 25 (AV.slice (some (0, o)) 8 (Cap.known 8)) (AV.int IntKind.i64 (Int.ofNat 3))) = some (AV.ptr (some (0, o + 3)), vcN8_s2 n o b0 b1 b2 b3 b4 b5 b6 b7 V V' R) ∧ aLoad E 5 (AV.ptr (some (0, o + 3))) (vcN8_s2 n o b0 b1 b2 b3 b4 b5 b6 b7 V V' R) = some (AV.int IntKind.u8 b3, vcN8_s2 n o b0 b1 b2 b3 b4 b5 b6 b7 V V' R) ∧ still (vcN8_s2 n o b0 b1 b2 b3 b4 b5 b6 b7 V V' R) (aIndexAddr E 25 (AV.slice (some (0, o)) 8 (Cap.known 8)) (AV.int IntKind.i64 (Int.ofNat 4))) = some (AV.ptr (some (0, o + 4)), vcN8_s2 n o b0 b1 b2 b3 b4 b5 b6 b7 V V' R) ∧ aLoad E 5 (AV.ptr (some (0, o + 4))) (vcN8_s2 n o b0 b1 b2 b3 b4 b5 b6 b7 V V' R) = some (AV.int IntKind.u8 b4, vcN8_s2 n o b0 b1 b2 b3 b4 b5 b6 b7 V V' R) ∧ still (vcN8_s2 n o b0 b1 b2 b3 b4 b5 b6 b7 V V' R) (aIndexAddr E 25 (AV.slice (some (0, o)) 8 (Cap.known 8)) (AV.int IntKind.i64 (Int.ofNat 5))) = some (AV.ptr (some (0, o + 5)), vcN8_s2 n o b0 b1 b2 b3 b4 b5 b6 b7 V V' R) ∧ aLoad E 5 (AV.ptr (some (0, o + 5))) (vcN8_s2 n o b0 b1 b2 b3 b4 b5 b6 b7 V V' R) = some (AV.int IntKind.u8 b5, vcN8_s2 n o b0 b1 b2 b3 b4 b5 b6 b7 V V' R) ∧ still (vcN8_s2 n o b0 b1 b2 b3 b4 b5 b6 b7 V V' R) (aIndexAddr E 25 (AV.slice (some (0, o)) 8 (Cap.known 8)) (AV.int IntKind.i64 (Int.ofNat 6))) = some (AV.ptr (some (0, o + 6)), vcN8_s2 n o b0 b1 b2 b3 b4 b5 b6 b7 V V' R) ∧ aLoad E 5 (AV.ptr (some (0, o + 6))) (vcN8_s2 n o b0 b1 b2 b3 b4 b5 b6 b7 V V' R) = some (AV.int IntKind.u8 b6, vcN8_s2 n o b0 b1 b2 b3 b4 b5 b6 b7 V V' R) ∧ still (vcN8_s2 n o b0 b1 b2 b3 b4 b5 b6 b7 V V' R) (aIndexAddr E 25 (AV.slice (some (0, o)) 8 (Cap.known 8)) (AV.int IntKind.i64 (Int.ofNat 7))) = some (AV.ptr (some (0, o + 7)), vcN8_s2 n o b0 b1 b2 b3 b4 b5 b6 b7 V V' R) ∧ aLoad E 5 (AV.ptr (some (0, o + 7))) (vcN8_s2 n o b0 b1 b2 b3 b4 b5 b6 b7 V V' R) = some (AV.int IntKind.u8 b7, vcN8_s2 n o b0 b1 b2 b3 b4 b5 b6 b7 V V' R) ∧ Q (AV.int IntKind.u64 (wrapF IntKind.u64 (Int.ofNat (Nat.lor (modN (shlF IntKind.u64 (wrapF IntKind.u64 (Int.ofNat (Nat.lor (modN (shlF IntKind.u64 (wrapF IntKind.u64 (Int.ofNat (Nat.lor (modN (shlF IntKind.u64 (wrapF IntKind.u64 (Int.ofNat (Nat.lor (modN (shlF IntKind.u64 (wrapF IntKind.u64 (Int.ofNat (Nat.lor (modN (shlF IntKind.u64 (wrapF IntKind.u64 (Int.ofNat (Nat.lor (modN (shlF IntKind.u64 (wrapF IntKind.u64 (Int.ofNat (Nat.lor (modN (shlF IntKind.u64 (wrapF IntKind.u64 (Int.ofNat (Nat.lor 0 (modN (wrapF IntKind.u64 b0) 18446744073709551616)))) 8) 18446744073709551616) (modN (wrapF IntKind.u64 b1) 18446744073709551616)))) 8) 18446744073709551616) (modN (wrapF IntKind.u64 b2) 18446744073709551616)))) 8) 18446744073709551616) (modN (wrapF IntKind.u64 b3) 18446744073709551616)))) 8) 18446744073709551616) (modN (wrapF IntKind.u64 b4) 18446744073709551616)))) 8) 18446744073709551616) (modN (wrapF IntKind.u64 b5) 18446744073709551616)))) 8) 18446744073709551616) (modN (wrapF IntKind.u64 b6) 18446744073709551616)))) 8) 18446744073709551616) (modN (wrapF IntKind.u64 b7) 18446744073709551616)))), vcN8_s2 n o b0 b1 b2 b3 b4 b5 b6 b7 V V' R))) =
  (tN8 n o b0 b1 b2 b3 b4 b5 b6 b7 V V' R).allY (fun r => Q (r.1, canS [0, 1] r.2)) (An.v (AV.int IntKind.i64 (Int.ofNat n), vcN8_s0 n o b0 b1 b2 b3 b4 b5 b6 b7 V V' R) (An.b (An.v (AV.tuple [], vcN8_s1 n o b0 b1 b2 b3 b4 b5 b6 b7 V V' R) An.nil) (An.v (AV.slice (some (0, o)) 8 (Cap.known 8), vcN8_s0 n o b0 b1 b2 b3 b4 b5 b6 b7 V V' R) (An.v (V', vcN8_s0 n o b0 b1 b2 b3 b4 b5 b6 b7 V V' R) (An.v (AV.tuple [], vcN8_s2 n o b0 b1 b2 b3 b4 b5 b6 b7 V V' R) (An.v (AV.ptr (some (0, o + 0)), vcN8_s2 n o b0 b1 b2 b3 b4 b5 b6 b7 V V' R) (An.v (AV.int IntKind.u8 b0, vcN8_s2 n o b0 b1 b2 b3 b4 b5 b6 b7 V V' R) (An.v (AV.ptr (some (0, o + 1)), vcN8_s2 n o b0 b1 b2 b3 b4 b5 b6 b7 V V' R) (An.v (AV.int IntKind.u8 b1, vcN8_s2 n o b0 b1 b2 b3 b4 b5 b6 b7 V V' R) (An.v (AV.ptr (some (0, o + 2)), vcN8_s2 n o b0 b1 b2 b3 b4 b5 b6 b7 V V' R) (An.v (AV.int IntKind.u8 b2, vcN8_s2 n o b0 b1 b2 b3 b4 b5 b6 b7 V V' R) (An.v (AV.ptr (some (0, o + 3)), vcN8_s2 n o b0 b1 b2 b3 b4 b5 b6 b7 V V' R) (An.v (AV.int IntKind.u8 b3, vcN8_s2 n o b0 b1 b2 b3 b4 b5 b6 b7 V V' R) (An.v (AV.ptr (some (0, o + 4)), vcN8_s2 n o b0 b1 b2 b3 b4 b5 b6 b7 V V' R) (An.v (AV.int IntKind.u8 b4, vcN8_s2 n o b0 b1 b2 b3 b4 b5 b6 b7 V V' R) (An.v (AV.ptr (some (0, o + 5)), vcN8_s2 n o b0 b1 b2 b3 b4 b5 b6 b7 V V' R) (An.v (AV.int IntKind.u8 b5, vcN8_s2 n o b0 b1 b2 b3 b4 b5 b6 b7 V V' R) (An.v (AV.ptr (some (0, o + 6)), vcN8_s2 n o b0 b1 b2 b3 b4 b5 b6 b7 V V' R) (An.v (AV.int IntKind.u8 b6, vcN8_s2 n o b0 b1 b2 b3 b4 b5 b6 b7 V V' R) (An.v (AV.ptr (some (0, o + 7)), vcN8_s2 n o b0 b1 b2 b3 b4 b5 b6 b7 V V' R) (An.v (AV.int IntKind.u8 b7, vcN8_s2 n o b0 b1 b2 b3 b4 b5 b6 b7 V V' R) An.nil))))))))))))))))))))) := by kernel_rfl
theorem Eok : Env.Ok Try.prog E := envEx_ok (xs := []) ⟨⟨Try.func93, Try.call93⟩, ⟨Try.func78, Try.call78⟩, ⟨Try.func62, Try.call62⟩, trivial⟩ trivial (by kernel_rfl)
def nilV : AV := .slice none 0 (.known 0)
def vAt (l : List Nat) (o : Nat) : AV := bif l.isEmpty then nilV else bif Nat.beq o l.length then .slice0 else .slice (some (0, o)) (l.length - o) (.rest 1)
def wAt (l : List Nat) (o s : Nat) : AV := bif l.isEmpty then nilV else bif Nat.beq o l.length then .slice0 else .slice (some (0, o)) s (.known s)
def obR (l : List Nat) : AO := bif l.isEmpty then .dead else .cells (l.map cellU) true
section
variable {l : List Nat} {o s : Nat} {S : ASt} {bad : Bool}
theorem forms (ho : o ≤ l.length) : (l = [] ∧ o = 0 ∧ vAt l o = nilV ∧ ∀ s, wAt l o s = nilV) ∨ (l ≠ [] ∧ o = l.length ∧ vAt l o = .slice0 ∧ ∀ s, wAt l o s = .slice0) ∨
    (l ≠ [] ∧ o < l.length ∧ vAt l o = .slice (some (0, o)) (l.length - o) (.rest 1) ∧ ∀ s, wAt l o s = .slice (some (0, o)) s (.known s)) := by
  cases l with
  | nil => exact .inl ⟨rfl, by simpa using ho, rfl, fun _ => rfl⟩
  | cons x l =>
    by_cases e : o = (x :: l).length
    · refine .inr (.inl ⟨by simp, e, ?_, fun s => ?_⟩) <;> simp [vAt, wAt, e]
    · have hb : Nat.beq o (x :: l).length = false := by
        cases hh : Nat.beq o (x :: l).length
        · rfl
        · exact absurd (Nat.eq_of_beq_eq_true hh) e
      refine .inr (.inr ⟨by simp, by omega, ?_, fun s => ?_⟩)
      · unfold vAt; rw [hb]; rfl
      · unfold wAt; rw [hb]; rfl
theorem lenV (ho : o ≤ l.length) : aBuiltinM E .len [25] [vAt l o] S = some (nI (l.length - o), S) := by
  rcases forms ho with ⟨rfl, rfl, e, _⟩ | ⟨_, rfl, e, _⟩ | ⟨_, _, e, _⟩
  · rw [e]; kernel_rfl
  · rw [e, Nat.sub_self]; kernel_rfl
  · rw [e]; kernel_rfl
theorem roomR {n : Nat} (h0 : l ≠ []) (hS : S.h.get 0 = some (obR l)) (hn : n = l.length - o) : aRoom S 0 o 1 n = n := by
  have e : obR l = .cells (l.map cellU) true := by cases l with | nil => exact absurd rfl h0 | cons x l => rfl
  unfold aRoom
  rw [hS, e]
  show (bif Nat.beq 1 0 then n else Nat.max n (Nat.div (Nat.sub (l.map cellU).length o) 1)) = n
  have e2 : Nat.div (Nat.sub (l.map cellU).length o) 1 = n := by
    rw [List.length_map, hn]
    exact Nat.div_one _
  rw [e2]
  exact Nat.max_self n
theorem ble_t {a b : Nat} (h : a ≤ b) : Nat.ble a b = true := Nat.ble_eq.symm ▸ h
theorem cutV (ho : o ≤ l.length) (hs : s ≤ l.length - o) (hS : S.h.get 0 = some (obR l)) :
    still S (aSlice E 25 (vAt l o) none (some (nI s)) (some (nI s)) S) = some (wAt l o s, S) := by
  refine still_of ?_
  rcases forms ho with ⟨rfl, rfl, e, e2⟩ | ⟨_, rfl, e, e2⟩ | ⟨h0, hlt, e, e2⟩
  · have : s = 0 := by simpa using hs
    subst this
    rw [e, e2]; show _ = _; kernel_rfl
  · have : s = 0 := by omega
    subst this
    rw [e, e2]; show _ = _; kernel_rfl
  · rw [e, e2]
    have e3 : aSlice E 25 (.slice (some (0, o)) (l.length - o) (.rest 1)) none (some (nI s)) (some (nI s)) S =
      (match aBounds (l.length - o) (aRoom S 0 o 1 (l.length - o)) none (some s) (some s) with
        | some (a, h, m) => some (.slice (some (0, bif Nat.beq m a then o else o + a * 1)) (h - a) (.known (m - a))) | none => none) := by kernel_rfl
    rw [e3, roomR h0 hS rfl]
    have e4 : aBounds (l.length - o) (l.length - o) none (some s) (some s) = some (0, s, s) := by
      unfold aBounds
      simp only [ble_t hs, ble_t (Nat.le_refl s), ble_t (Nat.zero_le s), cond_true]
    rw [e4]
    simp only [Nat.zero_mul, Nat.add_zero, Nat.sub_zero]
    cases Nat.beq s 0 <;> rfl
theorem restV (ho : o ≤ l.length) (hs : s ≤ l.length - o) (hS : S.h.get 0 = some (obR l)) :
    still S (aSlice E 25 (vAt l o) (some (nI s)) none none S) = some (vAt l (o + s), S) := by
  refine still_of ?_
  rcases forms ho with ⟨rfl, rfl, e, e2⟩ | ⟨h0, rfl, e, e2⟩ | ⟨h0, hlt, e, e2⟩
  · have : s = 0 := by simpa using hs
    subst this
    rw [e]; show _ = _; kernel_rfl
  · have : s = 0 := by omega
    subst this
    rw [Nat.add_zero, e]; show _ = _; kernel_rfl
  · rw [e]
    have e3 : aSlice E 25 (.slice (some (0, o)) (l.length - o) (.rest 1)) (some (nI s)) none none S =
      (match aBounds (l.length - o) (aRoom S 0 o 1 (l.length - o)) (some s) none none with
        | some (a, h, m) => (bif Nat.blt a (aRoom S 0 o 1 (l.length - o)) then some (.slice (some (0, o + a * 1)) (h - a) (.rest 1)) else bif Nat.beq a 0 then some (.slice (some (0, o)) 0 (.rest 1)) else some .slice0) | none => none) := by kernel_rfl
    rw [e3, roomR h0 hS rfl, bounds_from hs]
    simp only
    have hne : l.isEmpty = false := by cases l with | nil => exact absurd rfl h0 | cons x l => rfl
    by_cases hlt2 : s < l.length - o
    · rw [blt_t hlt2]
      have hb : Nat.beq (o + s) l.length = false := by
        cases hh : Nat.beq (o + s) l.length
        · rfl
        · have := Nat.eq_of_beq_eq_true hh; omega
      simp only [vAt, hne, hb, cond_true, cond_false, Nat.mul_one, Nat.sub_sub]
    · have es : s = l.length - o := by omega
      have hb1 : Nat.blt s (l.length - o) = false := by
        cases hh : Nat.blt s (l.length - o)
        · rfl
        · have := Nat.le_of_ble_eq_true hh; omega
      have hb0 : Nat.beq s 0 = false := by
        cases hh : Nat.beq s 0
        · rfl
        · have := Nat.eq_of_beq_eq_true hh; omega
      have hb : Nat.beq (o + s) l.length = true := by rw [show o + s = l.length by omega]; exact Nat.beq_refl _
      rw [hb1, hb0]
      simp only [vAt, hne, hb, cond_true, cond_false]
theorem storeV {R : AO} {V : AV} (ho : o ≤ l.length) : Option.map (fun s => (undefA, s)) (aStore E 25 (.ptr (some (1, 0))) (vAt l o) (mkSt [(0, R), (1, .cells [V, .bool false, .bool true] true)] 2)) =
    some (.tuple [], mkSt [(0, R), (1, .cells [vAt l o, .bool false, .bool true] true)] 2) := by
  rcases forms ho with ⟨rfl, rfl, e, e2⟩ | ⟨h0, rfl, e, e2⟩ | ⟨h0, hlt, e, e2⟩
  · rw [e]; kernel_rfl
  · rw [e]; kernel_rfl
  · rw [e]; kernel_rfl
theorem storeB {R : AO} {V : AV} : Option.map (fun s => (undefA, s)) (aStore E 4 (.ptr (some (1, 1))) (.bool true) (mkSt [(0, R), (1, .cells [V, .bool false, .bool true] true)] 2)) =
    some (.tuple [], mkSt [(0, R), (1, .cells [V, .bool true, .bool true] true)] 2) := by kernel_rfl
def AtS (P : Program) (f : Nat) (args : List AV) (S : ASt) (r : AV × ASt) : Prop := ∀ (B : Prot) (w0 : World) (ι : Ren) (w : World) (args' : Array Value), SR B w0 ι S w → VRs ι args args' →
  (callFunc f args').run P w = .ok (.enter f args') w ∧ CallsIn Fence.wide 0 P f args' w fun e w' => ∃ v, v = r ∧ Post B w0 ι v e w'
def toO (l : List Nat) (o : Nat) (bad : Bool) (s : Nat) : Nat := bif bad then o else bif Nat.blt (l.length - o) s then o else o + s
def toB (l : List Nat) (o : Nat) (bad : Bool) (s : Nat) : Bool := bif bad then true else Nat.blt (l.length - o) s
def cutW (l : List Nat) (o : Nat) (bad : Bool) (s : Nat) : AV := bif toB l o bad s then nilV else wAt l o s
noncomputable def stL (l : List Nat) (o : Nat) (bad : Bool) : ASt := stR (obR l) (vAt l o) bad
theorem cutRun (ho : o ≤ l.length) : AtS Try.prog 93 [.ptr (some (1, 0)), nI s] (stL l o bad) (cutW l o bad s, stL l (toO l o bad s) (toB l o bad s)) := by
  cases bad with
  | true =>
    refine run_of_tm Eok noSum_ok (Eq.mp (vcCb s (vAt l o) (obR l) (fun v => v = (cutW l o true s, stL l (toO l o true s) (toB l o true s)))) rfl)
  | false =>
    refine run_of_tm Eok noSum_ok (Eq.mp (vcC (l.length - o) s (vAt l o) (vAt l (o + s)) (wAt l o s) (obR l) (fun v => v = (cutW l o false s, stL l (toO l o false s) (toB l o false s)))) ⟨lenV ho, ifB_mk (fun h => ⟨storeB, ?_⟩) fun h => ?_⟩)
    · have e : Nat.blt (l.length - o) s = true := by rw [ltF_nn] at h; exact blt_t (of_decide_eq_true h)
      simp only [cutW, toO, toB, e, cond_true, cond_false]; rfl
    · have hs : s ≤ l.length - o := by
        rw [ltF_nn] at h
        have := of_decide_eq_false h
        omega
      have e : Nat.blt (l.length - o) s = false := by
        cases hh : Nat.blt (l.length - o) s
        · rfl
        · have := Nat.le_of_ble_eq_true hh; omega
      refine ⟨cutV ho hs (by kernel_rfl), restV ho hs (by kernel_rfl), storeV (by omega), ?_⟩
      simp only [cutW, toO, toB, e, cond_false]; rfl
end
end Go.Proofs.Ytlnohbilfogheaa.rdr
end

section
open Go Go.Ax Go.Proofs.Ytlnohbilfogheaa
namespace Go.Proofs.Ytlnohbilfogheaa.rdr
set_option linter.unusedVariables false
def beN (l : List Nat) (o : Nat) : Nat → Nat
  | 0 => 0
  | k + 1 => 256 * beN l o k + l.getD (o + k) 0
def numV (l : List Nat) (o : Nat) (bad : Bool) (k : Nat) : Nat := bif toB l o bad k then 0 else beN l o k
section
variable {l : List Nat} {o s : Nat} {S : ASt} {bad : Bool}
theorem getD_lt (hB : ∀ x, x ∈ l → x < 256) {i : Nat} : l.getD i 0 < 256 := by
  rw [List.getD_eq_getElem?_getD]
  cases h : l[i]? with
  | none => simp
  | some x => exact hB x (List.mem_of_getElem? h)
theorem beN_lt (h : ∀ i, l.getD (o + i) 0 < 256) : ∀ k, k ≤ 8 → beN l o k < 256 ^ k
  | 0, _ => by simp [beN]
  | k + 1, hk => by
    have := beN_lt h k (by omega)
    have h2 := h k
    simp only [beN, Nat.pow_succ]
    omega
theorem wrapU64' {m : Nat} (h : m < 18446744073709551616) : wrapF .u64 (.ofNat m) = .ofNat m := by
  have e : modN (.ofNat m) (big .u64) = m := Nat.mod_eq_of_lt h
  unfold wrapF
  have hb : Nat.blt (modN (.ofNat m) (big .u64)) (half .u64) = true := by rw [e]; exact blt_t h
  show (bif Nat.blt (modN (.ofNat m) (big .u64)) (half .u64) then Int.ofNat (modN (.ofNat m) (big .u64)) else _) = _
  rw [hb, e]; rfl
theorem modO {m : Nat} (h : m < 18446744073709551616) : modN (.ofNat m) 18446744073709551616 = m := Nat.mod_eq_of_lt h
theorem st0 (hb : l.getD (o + 0) 0 < 256) : wrapF .u64 (Int.ofNat (Nat.lor 0 (modN (wrapF .u64 (.ofNat (l.getD (o + 0) 0))) 18446744073709551616))) = .ofNat (beN l o 1) := by
  show _ = Int.ofNat (256 * 0 + l.getD (o + 0) 0)
  generalize l.getD (o + 0) 0 = b at hb
  rw [wrapU64' (m := b) (by omega), modO (by omega)]
  have : Nat.lor 0 b = b := Nat.zero_or b
  rw [this, wrapU64' (by omega), Nat.mul_zero, Nat.zero_add]
theorem st1 {k : Nat} (hx : beN l o k < 256 ^ k) (hk : k ≤ 7) (hb : l.getD (o + k) 0 < 256) :
    wrapF .u64 (Int.ofNat (Nat.lor (modN (shlF .u64 (.ofNat (beN l o k)) 8) 18446744073709551616) (modN (wrapF .u64 (.ofNat (l.getD (o + k) 0))) 18446744073709551616))) = .ofNat (beN l o (k + 1)) := by
  show _ = Int.ofNat (256 * beN l o k + l.getD (o + k) 0)
  generalize l.getD (o + k) 0 = b at hb
  generalize beN l o k = x at hx
  have hx7 : x < 72057594037927936 := Nat.lt_of_lt_of_le hx (Nat.pow_le_pow_right (by omega) hk)
  have e : shlF .u64 (.ofNat x) 8 = .ofNat (256 * x) := by
    show wrapF .u64 (.ofNat (x * 256)) = _
    rw [wrapU64' (by omega), Nat.mul_comm]
  rw [e, wrapU64' (m := b) (by omega), modO (by omega), modO (by omega)]
  have : Nat.lor (256 * x) b = 256 * x + b := (Nat.two_pow_add_eq_or_of_lt (i := 8) hb x).symm
  rw [this, wrapU64' (by omega)]
theorem idxK {S : ASt} {x : Option AV} {v : AV} (h : x = some v) : still S x = some (v, S) := still_of h
theorem ldK {V : AV} {bb : Bool} {n : Nat} (hok : o + n ≤ l.length) (hS : ∀ {V : AV} {bb : Bool}, (stR (obR l) V bb).h.get 0 = some (obR l)) (i : Nat) (hi : i < n) :
    aLoad E 5 (.ptr (some (0, o + i))) (stR (obR l) V bb) = some (.int .u8 (.ofNat (l.getD (o + i) 0)), stR (obR l) V bb) := by
  have hlt : o + i < l.length := by omega
  have e : obR l = .cells (l.map cellU) true := by cases l with | nil => simp at hlt | cons x l => rfl
  refine load_at (cs := l.map cellU) (rw := true) (by kernel_rfl) (hS.trans (by rw [e])) ?_
  rw [List.getElem?_map, List.getD_eq_getElem?_getD, List.getElem?_eq_getElem hlt]; rfl
theorem num1 (ho : o ≤ l.length) (hB : ∀ x, x ∈ l → x < 256) : AtS Try.prog 62 [.ptr (some (1, 0)), nI 1] (stL l o bad) (.int .u64 (.ofNat (numV l o bad 1)), stL l (toO l o bad 1) (toB l o bad 1)) := by
  cases bad with
  | true => exact run_of_tm Eok noSum_ok (Eq.mp (vcNb1 (vAt l o) (obR l) (fun v => v = (.int .u64 (.ofNat (numV l o true 1)), stL l (toO l o true 1) (toB l o true 1)))) rfl)
  | false =>
    by_cases hk : l.length - o < 1
    · have e : Nat.blt (l.length - o) 1 = true := blt_t hk
      refine run_of_tm Eok noSum_ok (Eq.mp (vcN1 (l.length - o) o 0 (vAt l o) (vAt l o) (obR l) (fun v => v = (.int .u64 (.ofNat (numV l o false 1)), stL l (toO l o false 1) (toB l o false 1)))) ⟨lenV ho, ifB_mk (fun h => ⟨storeB, ?_⟩) fun h => ?_⟩)
      · simp only [numV, toO, toB, e, cond_true, cond_false]; rfl
      · rw [ltF_nn] at h
        exact absurd hk (of_decide_eq_false h)
    · have hs : 1 ≤ l.length - o := by omega
      have hok : o + 1 ≤ l.length := by omega
      have e : Nat.blt (l.length - o) 1 = false := by
        cases hh : Nat.blt (l.length - o) 1
        · rfl
        · have := Nat.le_of_ble_eq_true hh; omega
      have hW : wAt l o 1 = .slice (some (0, o)) 1 (.known 1) := by
        rcases forms ho with ⟨rfl, _, _, _⟩ | ⟨_, rfl, _, _⟩ | ⟨_, _, _, e2⟩
        · simp at hs
        · omega
        · exact e2 1
      have hS : ∀ {V : AV} {bb : Bool}, (stR (obR l) V bb).h.get 0 = some (obR l) := by intros; kernel_rfl
      refine run_of_tm Eok noSum_ok (Eq.mp (vcN1 (l.length - o) o (.ofNat (l.getD (o + 0) 0)) (vAt l o) (vAt l (o + 1)) (obR l) (fun v => v = (.int .u64 (.ofNat (numV l o false 1)), stL l (toO l o false 1) (toB l o false 1)))) ⟨lenV ho, ifB_mk (fun h => ?_) fun h => ⟨(cutV ho hs (hS (V := vAt l o) (bb := false))).trans (by rw [hW]; rfl), restV ho hs (hS (V := vAt l o) (bb := false)), storeV (by omega), idxK (by kernel_rfl), ldK hok hS (0 : Nat) (by omega), ?_⟩⟩)
      · rw [ltF_nn] at h
        exact absurd (of_decide_eq_true h) (by omega)
      · simp only [numV, toO, toB, e, cond_false]
        have hb : ∀ i, l.getD (o + i) 0 < 256 := fun i => getD_lt hB
        rw [st0 (hb 0)]
        skip
        rfl
theorem num2 (ho : o ≤ l.length) (hB : ∀ x, x ∈ l → x < 256) : AtS Try.prog 62 [.ptr (some (1, 0)), nI 2] (stL l o bad) (.int .u64 (.ofNat (numV l o bad 2)), stL l (toO l o bad 2) (toB l o bad 2)) := by
  cases bad with
  | true => exact run_of_tm Eok noSum_ok (Eq.mp (vcNb2 (vAt l o) (obR l) (fun v => v = (.int .u64 (.ofNat (numV l o true 2)), stL l (toO l o true 2) (toB l o true 2)))) rfl)
  | false =>
    by_cases hk : l.length - o < 2
    · have e : Nat.blt (l.length - o) 2 = true := blt_t hk
      refine run_of_tm Eok noSum_ok (Eq.mp (vcN2 (l.length - o) o 0 0 (vAt l o) (vAt l o) (obR l) (fun v => v = (.int .u64 (.ofNat (numV l o false 2)), stL l (toO l o false 2) (toB l o false 2)))) ⟨lenV ho, ifB_mk (fun h => ⟨storeB, ?_⟩) fun h => ?_⟩)
      · simp only [numV, toO, toB, e, cond_true, cond_false]; rfl
      · rw [ltF_nn] at h
        exact absurd hk (of_decide_eq_false h)
    · have hs : 2 ≤ l.length - o := by omega
      have hok : o + 2 ≤ l.length := by omega
      have e : Nat.blt (l.length - o) 2 = false := by
        cases hh : Nat.blt (l.length - o) 2
        · rfl
        · have := Nat.le_of_ble_eq_true hh; omega
      have hW : wAt l o 2 = .slice (some (0, o)) 2 (.known 2) := by
        rcases forms ho with ⟨rfl, _, _, _⟩ | ⟨_, rfl, _, _⟩ | ⟨_, _, _, e2⟩
        · simp at hs
        · omega
        · exact e2 2
      have hS : ∀ {V : AV} {bb : Bool}, (stR (obR l) V bb).h.get 0 = some (obR l) := by intros; kernel_rfl
      refine run_of_tm Eok noSum_ok (Eq.mp (vcN2 (l.length - o) o (.ofNat (l.getD (o + 0) 0)) (.ofNat (l.getD (o + 1) 0)) (vAt l o) (vAt l (o + 2)) (obR l) (fun v => v = (.int .u64 (.ofNat (numV l o false 2)), stL l (toO l o false 2) (toB l o false 2)))) ⟨lenV ho, ifB_mk (fun h => ?_) fun h => ⟨(cutV ho hs (hS (V := vAt l o) (bb := false))).trans (by rw [hW]; rfl), restV ho hs (hS (V := vAt l o) (bb := false)), storeV (by omega), idxK (by kernel_rfl), ldK hok hS (0 : Nat) (by omega), idxK (by kernel_rfl), ldK hok hS (1 : Nat) (by omega), ?_⟩⟩)
      · rw [ltF_nn] at h
        exact absurd (of_decide_eq_true h) (by omega)
      · simp only [numV, toO, toB, e, cond_false]
        have hb : ∀ i, l.getD (o + i) 0 < 256 := fun i => getD_lt hB
        rw [st0 (hb 0)]
        rw [st1 (k := 1) (beN_lt hb 1 (by omega)) (by omega) (hb 1)]
        rfl
theorem num8 (ho : o ≤ l.length) (hB : ∀ x, x ∈ l → x < 256) : AtS Try.prog 62 [.ptr (some (1, 0)), nI 8] (stL l o bad) (.int .u64 (.ofNat (numV l o bad 8)), stL l (toO l o bad 8) (toB l o bad 8)) := by
  cases bad with
  | true => exact run_of_tm Eok noSum_ok (Eq.mp (vcNb8 (vAt l o) (obR l) (fun v => v = (.int .u64 (.ofNat (numV l o true 8)), stL l (toO l o true 8) (toB l o true 8)))) rfl)
  | false =>
    by_cases hk : l.length - o < 8
    · have e : Nat.blt (l.length - o) 8 = true := blt_t hk
      refine run_of_tm Eok noSum_ok (Eq.mp (vcN8 (l.length - o) o 0 0 0 0 0 0 0 0 (vAt l o) (vAt l o) (obR l) (fun v => v = (.int .u64 (.ofNat (numV l o false 8)), stL l (toO l o false 8) (toB l o false 8)))) ⟨lenV ho, ifB_mk (fun h => ⟨storeB, ?_⟩) fun h => ?_⟩)
      · simp only [numV, toO, toB, e, cond_true, cond_false]; rfl
      · rw [ltF_nn] at h
        exact absurd hk (of_decide_eq_false h)
    · have hs : 8 ≤ l.length - o := by omega
      have hok : o + 8 ≤ l.length := by omega
      have e : Nat.blt (l.length - o) 8 = false := by
        cases hh : Nat.blt (l.length - o) 8
        · rfl
        · have := Nat.le_of_ble_eq_true hh; omega
      have hW : wAt l o 8 = .slice (some (0, o)) 8 (.known 8) := by
        rcases forms ho with ⟨rfl, _, _, _⟩ | ⟨_, rfl, _, _⟩ | ⟨_, _, _, e2⟩
        · simp at hs
        · omega
        · exact e2 8
      have hS : ∀ {V : AV} {bb : Bool}, (stR (obR l) V bb).h.get 0 = some (obR l) := by intros; kernel_rfl
      refine run_of_tm Eok noSum_ok (Eq.mp (vcN8 (l.length - o) o (.ofNat (l.getD (o + 0) 0)) (.ofNat (l.getD (o + 1) 0)) (.ofNat (l.getD (o + 2) 0)) (.ofNat (l.getD (o + 3) 0)) (.ofNat (l.getD (o + 4) 0)) (.ofNat (l.getD (o + 5) 0)) (.ofNat (l.getD (o + 6) 0)) (.ofNat (l.getD (o + 7) 0)) (vAt l o) (vAt l (o + 8)) (obR l) (fun v => v = (.int .u64 (.ofNat (numV l o false 8)), stL l (toO l o false 8) (toB l o false 8)))) ⟨lenV ho, ifB_mk (fun h => ?_) fun h => ⟨(cutV ho hs (hS (V := vAt l o) (bb := false))).trans (by rw [hW]; rfl), restV ho hs (hS (V := vAt l o) (bb := false)), storeV (by omega), idxK (by kernel_rfl), ldK hok hS (0 : Nat) (by omega), idxK (by kernel_rfl), ldK hok hS (1 : Nat) (by omega), idxK (by kernel_rfl), ldK hok hS (2 : Nat) (by omega), idxK (by kernel_rfl), ldK hok hS (3 : Nat) (by omega), idxK (by kernel_rfl), ldK hok hS (4 : Nat) (by omega), idxK (by kernel_rfl), ldK hok hS (5 : Nat) (by omega), idxK (by kernel_rfl), ldK hok hS (6 : Nat) (by omega), idxK (by kernel_rfl), ldK hok hS (7 : Nat) (by omega), ?_⟩⟩)
      · rw [ltF_nn] at h
        exact absurd (of_decide_eq_true h) (by omega)
      · simp only [numV, toO, toB, e, cond_false]
        have hb : ∀ i, l.getD (o + i) 0 < 256 := fun i => getD_lt hB
        rw [st0 (hb 0)]
        rw [st1 (k := 1) (beN_lt hb 1 (by omega)) (by omega) (hb 1)]; rw [st1 (k := 2) (beN_lt hb 2 (by omega)) (by omega) (hb 2)]; rw [st1 (k := 3) (beN_lt hb 3 (by omega)) (by omega) (hb 3)]; rw [st1 (k := 4) (beN_lt hb 4 (by omega)) (by omega) (hb 4)]; rw [st1 (k := 5) (beN_lt hb 5 (by omega)) (by omega) (hb 5)]; rw [st1 (k := 6) (beN_lt hb 6 (by omega)) (by omega) (hb 6)]; rw [st1 (k := 7) (beN_lt hb 7 (by omega)) (by omega) (hb 7)]
        rfl
end
end Go.Proofs.Ytlnohbilfogheaa.rdr
end

section
open Go Go.Ax Go.Proofs.Ytlnohbilfogheaa
namespace Go.Proofs.Ytlnohbilfogheaa.rdr
set_option linter.unusedVariables false
section
variable {l : List Nat} {o : Nat} {S : ASt} {bad : Bool}
def vIn (r : Nat) (l : List Nat) (o : Nat) : AV := mapV (fun _ => r) (vAt l o)
theorem forms2 (r : Nat) (ho : o ≤ l.length) : (l = [] ∧ o = 0 ∧ vAt l o = nilV ∧ vIn r l o = nilV) ∨ (l ≠ [] ∧ o = l.length ∧ vAt l o = .slice0 ∧ vIn r l o = .slice0) ∨
    (l ≠ [] ∧ o < l.length ∧ vAt l o = .slice (some (0, o)) (l.length - o) (.rest 1) ∧ vIn r l o = .slice (some (r, o)) (l.length - o) (.rest 1)) := by
  rcases forms ho with ⟨h1, h2, e, _⟩ | ⟨h1, h2, e, _⟩ | ⟨h1, h2, e, _⟩
  · exact .inl ⟨h1, h2, e, by rw [vIn, e]; rfl⟩
  · exact .inr (.inl ⟨h1, h2, e, by rw [vIn, e]; rfl⟩)
  · exact .inr (.inr ⟨h1, h2, e, by rw [vIn, e]; rfl⟩)
theorem vIn_cell (r : Nat) (ho : o ≤ l.length) : (vIn r l o).isCell = true ∧ (vAt l o).isCell = true := by
  rcases forms2 r ho with ⟨_, _, e, e2⟩ | ⟨_, _, e, e2⟩ | ⟨_, _, e, e2⟩ <;> rw [e, e2] <;> exact ⟨rfl, rfl⟩
theorem vIn_eq {g : Nat → Nat} {r : Nat} (hg : l ≠ [] → g 0 = r) (ho : o ≤ l.length) : mapV g (vAt l o) = vIn r l o := by
  rcases forms2 r ho with ⟨_, _, e, e2⟩ | ⟨_, _, e, e2⟩ | ⟨h0, _, e, e2⟩
  · rw [e, e2]; rfl
  · rw [e, e2]; rfl
  · rw [e, e2, ← hg h0]; rfl
theorem vIn_back {ι κ : Ren} {r : Nat} {x : Value} (ho : o ≤ l.length) (hκ : l ≠ [] → κ 0 = ι r) (h : VR ι (vIn r l o) x) : VR κ (vAt l o) x := by
  rcases forms2 r ho with ⟨_, _, e, e2⟩ | ⟨_, _, e, e2⟩ | ⟨h0, _, e, e2⟩
  · rw [e2] at h; rw [e]; exact h.noRef (by simp [nilV, refsV])
  · rw [e2] at h; rw [e]; exact h.noRef (by simp [refsV])
  · rw [e2] at h; rw [e]
    cases h with
    | slice _ _ _ c' L _ hL hc hl => exact .slice 0 o _ c' L _ ((hκ h0).trans hL) hc hl
theorem rd_back {ι κ : Ren} {r : Nat} {L : Ax.Loc} {ob : Obj} (ho : o ≤ l.length) (hκ : l ≠ [] → κ 0 = ι r) (h : OR ι L (rd (vIn r l o) bad) ob) : OR κ L (rd (vAt l o) bad) ob := by
  obtain ⟨c, e, lo, hi', q1, q2, q3, q4, q5, q6⟩ := h
  refine ⟨c, e, lo, hi', q1, q2, q3, fun v hv => ?_, fun k y y' hy hy' => ?_, q6⟩
  · simp only [List.mem_cons, List.not_mem_nil, or_false] at hv
    rcases hv with rfl | rfl | rfl
    · exact (vIn_cell r ho).2
    · rfl
    · rfl
  · match k, hy with
    | 0, hy => simp at hy; subst hy; exact vIn_back ho hκ (q5 0 _ y' rfl hy')
    | 1, hy => simp at hy; subst hy; exact (q5 1 _ y' rfl hy').noRef (by simp [refsV])
    | 2, hy => simp at hy; subst hy; exact (q5 2 _ y' rfl hy').noRef (by simp [refsV])
    | k + 3, hy => simp at hy
theorem obR_row (h0 : l ≠ []) : obR l = .cells (l.map cellU) true := by cases l with | nil => exact absurd rfl h0 | cons x l => rfl
end
end Go.Proofs.Ytlnohbilfogheaa.rdr
end

section
open Go Go.Ax Go.Proofs.Ytlnohbilfogheaa
namespace Go.Proofs.Ytlnohbilfogheaa.rdr
set_option linter.unusedVariables false
noncomputable def fnsE : List (Nat × Func) := [(93, Try.f93), (78, Try.f78), (62, Try.f62), (61, Try.f61), (63, Try.f63), (64, Try.f64)]
noncomputable def E2 : Env := envEx Try.prog [0, 3, 4, 5, 25, 28, 33, 106, 140, 141] fnsE []
noncomputable def sm1 (q : CallT) : CallT := onlyC [93, 62] q
noncomputable def t63 (q : CallT) (x : Nat) (V V1 V2 W : AV) (R : AO) (bad bad1 bad2 : Bool) : Tr (AV × ASt) := (TM E2 (sm1 q) [(63, ⟨[5, 7], [], [], []⟩)] fl0 60).call 63 [.ptr (some (1, 0))] (stR R V bad)
noncomputable def t64b (V : AV) (R : AO) : Tr (AV × ASt) := (TM E2 noSum [(64, fl0)] fl0 60).call 64 [.ptr (some (1, 0))] (stR R V true)
noncomputable def t64 (n : Nat) (V : AV) (R : AO) : Tr (AV × ASt) := (TM E2 noSum [(64, ⟨[23], [], [24], []⟩)] fl0 60).call 64 [.ptr (some (1, 0))] (stR R V false)
noncomputable def vc63_s0 (x : Nat) (V : AV) (V1 : AV) (V2 : AV) (W : AV) (R : AO) (bad : Bool) (bad1 : Bool) (bad2 : Bool) : ASt := mkSt [(0, R), (1, AO.cells [V, AV.bool bad, AV.bool true] true)] 2
noncomputable def vc63_s1 (x : Nat) (V : AV) (V1 : AV) (V2 : AV) (W : AV) (R : AO) (bad : Bool) (bad1 : Bool) (bad2 : Bool) : ASt := mkSt [(0, R), (1, AO.cells [V1, AV.bool bad1, AV.bool true] true)] 2
noncomputable def vc63_s2 (x : Nat) (V : AV) (V1 : AV) (V2 : AV) (W : AV) (R : AO) (bad : Bool) (bad1 : Bool) (bad2 : Bool) : ASt := mkSt [(0, R), (1, AO.cells [V2, AV.bool bad2, AV.bool true] true)] 2
theorem vc63 (q : CallT) (x : Nat) (V : AV) (V1 : AV) (V2 : AV) (W : AV) (R : AO) (bad : Bool) (bad1 : Bool) (bad2 : Bool) (Q : AV × ASt → Prop) :
  ((M E2 (drawA E2) (sm1 q) 56).call 62 [AV.ptr (some (1, 0)), AV.int IntKind.i64 (Int.ofNat 2)] (vc63_s0 x V V1 V2 W R bad bad1 bad2) = some (AV.int IntKind.u64 (Int.ofNat x), vc63_s1 x V V1 V2 W R bad bad1 bad2) ∧ (M E2 (drawA E2) (sm1 q) 56).call 93 [AV.ptr (some (1, 0)), AV.int IntKind.i64 (wrapF IntKind.i64 (Int.ofNat x))] (vc63_s1 x V V1 V2 W R bad bad1 bad2) = some (W, vc63_s2 x V V1 V2 W R bad bad1 bad2) ∧ Q (W, vc63_s2 x V V1 V2 W R bad bad1 bad2)) =
  (t63 q x V V1 V2 W R bad bad1 bad2).allY (fun r => Q (r.1, canS [0, 1] r.2)) (An.v (AV.int IntKind.u64 (Int.ofNat x), vc63_s1 x V V1 V2 W R bad bad1 bad2) (An.v (W, vc63_s2 x V V1 V2 W R bad bad1 bad2) An.nil)) := by kernel_rfl
noncomputable def vc64b_s0 (V : AV) (R : AO) : ASt := mkSt [(0, R), (1, AO.cells [V, AV.bool true, AV.bool true] true)] 2
theorem vc64b (V : AV) (R : AO) (Q : AV × ASt → Prop) :
  (Q (AV.int IntKind.i64 (Int.ofNat 4), vc64b_s0 V R)) =
  (t64b V R).allY (fun r => Q (r.1, canS [0, 1] r.2)) (An.nil) := by kernel_rfl
noncomputable def vc64_s0 (n : Nat) (V : AV) (R : AO) : ASt := mkSt [(0, R), (1, AO.cells [V, AV.bool false, AV.bool true] true)] 2
theorem vc64 (n : Nat) (V : AV) (R : AO) (Q : AV × ASt → Prop) :
  (aBuiltinM E2 Builtin.len [25] [V] (vc64_s0 n V R) = some (AV.int IntKind.i64 (Int.ofNat n), vc64_s0 n V R) ∧ ifB (ltF (Int.ofNat 0) (Int.ofNat n)) (Q (AV.int IntKind.i64 (Int.ofNat 4), vc64_s0 n V R)) (Q (AV.int IntKind.i64 (Int.ofNat 0), vc64_s0 n V R))) =
  (t64 n V R).allY (fun r => Q (r.1, canS [0, 1] r.2)) (An.v (AV.int IntKind.i64 (Int.ofNat n), vc64_s0 n V R) (An.b An.nil An.nil)) := by kernel_rfl
theorem E2ok : Env.Ok Try.prog E2 := envEx_ok (xs := []) ⟨⟨Try.func93, Try.call93⟩, ⟨Try.func78, Try.call78⟩, ⟨Try.func62, Try.call62⟩, ⟨Try.func61, Try.call61⟩, ⟨Try.func63, Try.call63⟩, ⟨Try.func64, Try.call64⟩, trivial⟩ trivial (by kernel_rfl)
theorem AtS.call1 {P : Program} {f : Nat} {args : List AV} {S : ASt} {r : AV × ASt} (h : AtS P f args S r) : Call1 P f args S r := fun B w0 ι w args' hsr hv => by
  obtain ⟨h1, h2⟩ := h B w0 ι w args' hsr hv
  refine ⟨h1, h2.mono ?_⟩
  rintro e w' ⟨_, rfl, hp⟩
  exact hp
section
variable {l : List Nat} {o s : Nat} {S : ASt} {bad : Bool}
theorem toO_le (ho : o ≤ l.length) : toO l o bad s ≤ l.length := by
  unfold toO
  cases bad
  · simp only [cond_false]
    cases h : Nat.blt (l.length - o) s
    · simp only [cond_false]
      have : ¬ l.length - o < s := fun g => by rw [blt_t g] at h; cases h
      omega
    · simp only [cond_true]; exact ho
  · exact ho
def blobN (l : List Nat) (o : Nat) (bad : Bool) : Nat := numV l o bad 2
theorem blobRun (ho : o ≤ l.length) (hB : ∀ x, x ∈ l → x < 256) : AtS Try.prog 63 [.ptr (some (1, 0))] (stL l o bad)
    (cutW l (toO l o bad 2) (toB l o bad 2) (blobN l o bad), stL l (toO l (toO l o bad 2) (toB l o bad 2) (blobN l o bad)) (toB l (toO l o bad 2) (toB l o bad 2) (blobN l o bad))) := by
  obtain ⟨o1, h1⟩ : ∃ x, x = toO l o bad 2 := ⟨_, rfl⟩
  obtain ⟨b1, h2⟩ : ∃ x, x = toB l o bad 2 := ⟨_, rfl⟩
  obtain ⟨n, h3⟩ : ∃ x, x = blobN l o bad := ⟨_, rfl⟩
  have ho1 : o1 ≤ l.length := h1 ▸ toO_le ho
  have hn : n < 65536 := by
    rw [h3]; unfold blobN numV
    cases toB l o bad 2
    · exact beN_lt (fun i => getD_lt hB) 2 (by omega)
    · exact Nat.zero_lt_succ _
  have c1 : Call1 Try.prog 62 [.ptr (some (1, 0)), nI 2] (stL l o bad) (.int .u64 (.ofNat n), stL l o1 b1) := by rw [h1, h2, h3]; exact (num2 ho hB).call1
  have c2 : Call1 Try.prog 93 [.ptr (some (1, 0)), nI n] (stL l o1 b1) (cutW l o1 b1 n, stL l (toO l o1 b1 n) (toB l o1 b1 n)) := (cutRun ho1).call1
  rw [← h1, ← h2, ← h3]
  refine run_of_tm E2ok (onlyC_ok (fs := [93, 62]) (tabC_ok (tab := [(62, [.ptr (some (1, 0)), nI 2], stL l o bad, (.int .u64 (.ofNat n), stL l o1 b1)), (93, [.ptr (some (1, 0)), nI n], stL l o1 b1, (cutW l o1 b1 n, stL l (toO l o1 b1 n) (toB l o1 b1 n)))]) fun e he => by
      simp only [List.mem_cons, List.not_mem_nil, or_false] at he
      rcases he with rfl | rfl
      · exact c1
      · exact c2))
    (Eq.mp (vc63 _ n (vAt l o) (vAt l o1) (vAt l (toO l o1 b1 n)) (cutW l o1 b1 n) (obR l) bad b1 (toB l o1 b1 n) (fun v => v = (cutW l o1 b1 n, stL l (toO l o1 b1 n) (toB l o1 b1 n)))) ⟨call_at (onlyC_at rfl (tabC_hd ..)), ?_, rfl⟩)
  have hw : wrapF .i64 (.ofNat n) = .ofNat n := wrap_nat (by omega)
  rw [hw]
  exact call_at (onlyC_at rfl ((tabC_tlf rfl).trans (tabC_hd ..)))
def endN (l : List Nat) (o : Nat) (bad : Bool) : Nat := bif bad || Nat.blt 0 (l.length - o) then 4 else 0
theorem endRun (ho : o ≤ l.length) : AtS Try.prog 64 [.ptr (some (1, 0))] (stL l o bad) (nI (endN l o bad), stL l o bad) := by
  cases bad with
  | true => exact run_of_tm E2ok noSum_ok (Eq.mp (vc64b (vAt l o) (obR l) (fun v => v = (nI (endN l o true), stL l o true))) rfl)
  | false =>
    have e : aBuiltinM E2 .len [25] [vAt l o] (stL l o false) = some (nI (l.length - o), stL l o false) := by
      rcases forms ho with ⟨rfl, rfl, e, _⟩ | ⟨_, rfl, e, _⟩ | ⟨_, _, e, _⟩
      · rw [e]; show _ = _; kernel_rfl
      · rw [e, Nat.sub_self]; show _ = _; kernel_rfl
      · rw [e]; show _ = _; kernel_rfl
    refine run_of_tm E2ok noSum_ok (Eq.mp (vc64 (l.length - o) (vAt l o) (obR l) (fun v => v = (nI (endN l o false), stL l o false))) ⟨e, ifB_mk (fun h => ?_) fun h => ?_⟩)
    · rw [ltF_nn] at h
      have : endN l o false = 4 := by unfold endN; rw [blt_t (of_decide_eq_true h)]; rfl
      rw [this]; rfl
    · rw [ltF_nn] at h
      have h' := of_decide_eq_false h
      have : endN l o false = 0 := by
        unfold endN
        cases hh : Nat.blt 0 (l.length - o)
        · rfl
        · have := Nat.le_of_ble_eq_true hh; omega
      rw [this]; rfl
end
end Go.Proofs.Ytlnohbilfogheaa.rdr
end

section
open Go Go.Ax Go.Proofs.Ytlnohbilfogheaa Go.Proofs.Ytlnohbilfogheaa.rdr
namespace Go.Proofs.Ytlnohbilfogheaa.rrq
set_option linter.unusedVariables false
def ddL (d : Nat → Nat) : List AV := [.int .u8 (.ofNat (d 0)), .int .u8 (.ofNat (d 1)), .int .u8 (.ofNat (d 2)), .int .u8 (.ofNat (d 3)), .int .u8 (.ofNat (d 4)), .int .u8 (.ofNat (d 5)), .int .u8 (.ofNat (d 6)), .int .u8 (.ofNat (d 7)), .int .u8 (.ofNat (d 8)), .int .u8 (.ofNat (d 9)), .int .u8 (.ofNat (d 10)), .int .u8 (.ofNat (d 11)), .int .u8 (.ofNat (d 12)), .int .u8 (.ofNat (d 13)), .int .u8 (.ofNat (d 14)), .int .u8 (.ofNat (d 15)), .int .u8 (.ofNat (d 16)), .int .u8 (.ofNat (d 17)), .int .u8 (.ofNat (d 18)), .int .u8 (.ofNat (d 19)), .int .u8 (.ofNat (d 20)), .int .u8 (.ofNat (d 21)), .int .u8 (.ofNat (d 22)), .int .u8 (.ofNat (d 23)), .int .u8 (.ofNat (d 24)), .int .u8 (.ofNat (d 25)), .int .u8 (.ofNat (d 26)), .int .u8 (.ofNat (d 27)), .int .u8 (.ofNat (d 28)), .int .u8 (.ofNat (d 29)), .int .u8 (.ofNat (d 30)), .int .u8 (.ofNat (d 31)), .int .u8 (.ofNat (d 32)), .int .u8 (.ofNat (d 33)), .int .u8 (.ofNat (d 34)), .int .u8 (.ofNat (d 35)), .int .u8 (.ofNat (d 36)), .int .u8 (.ofNat (d 37)), .int .u8 (.ofNat (d 38)), .int .u8 (.ofNat (d 39)), .int .u8 (.ofNat (d 40)), .int .u8 (.ofNat (d 41)), .int .u8 (.ofNat (d 42)), .int .u8 (.ofNat (d 43)), .int .u8 (.ofNat (d 44)), .int .u8 (.ofNat (d 45)), .int .u8 (.ofNat (d 46)), .int .u8 (.ofNat (d 47)), .int .u8 (.ofNat (d 48)), .int .u8 (.ofNat (d 49)), .int .u8 (.ofNat (d 50)), .int .u8 (.ofNat (d 51)), .int .u8 (.ofNat (d 52)), .int .u8 (.ofNat (d 53)), .int .u8 (.ofNat (d 54)), .int .u8 (.ofNat (d 55)), .int .u8 (.ofNat (d 56)), .int .u8 (.ofNat (d 57)), .int .u8 (.ofNat (d 58)), .int .u8 (.ofNat (d 59)), .int .u8 (.ofNat (d 60)), .int .u8 (.ofNat (d 61)), .int .u8 (.ofNat (d 62)), .int .u8 (.ofNat (d 63)), .int .u8 (.ofNat (d 64)), .int .u8 (.ofNat (d 65)), .int .u8 (.ofNat (d 66)), .int .u8 (.ofNat (d 67)), .int .u8 (.ofNat (d 68)), .int .u8 (.ofNat (d 69)), .int .u8 (.ofNat (d 70)), .int .u8 (.ofNat (d 71)), .int .u8 (.ofNat (d 72)), .int .u8 (.ofNat (d 73)), .int .u8 (.ofNat (d 74)), .int .u8 (.ofNat (d 75)), .int .u8 (.ofNat (d 76)), .int .u8 (.ofNat (d 77)), .int .u8 (.ofNat (d 78)), .int .u8 (.ofNat (d 79)), .int .u8 (.ofNat (d 80)), .int .u8 (.ofNat (d 81)), .int .u8 (.ofNat (d 82)), .int .u8 (.ofNat (d 83)), .int .u8 (.ofNat (d 84)), .int .u8 (.ofNat (d 85)), .int .u8 (.ofNat (d 86)), .int .u8 (.ofNat (d 87)), .int .u8 (.ofNat (d 88)), .int .u8 (.ofNat (d 89)), .int .u8 (.ofNat (d 90)), .int .u8 (.ofNat (d 91)), .int .u8 (.ofNat (d 92)), .int .u8 (.ofNat (d 93)), .int .u8 (.ofNat (d 94)), .int .u8 (.ofNat (d 95)), .int .u8 (.ofNat (d 96)), .int .u8 (.ofNat (d 97)), .int .u8 (.ofNat (d 98)), .int .u8 (.ofNat (d 99)), .int .u8 (.ofNat (d 100)), .int .u8 (.ofNat (d 101)), .int .u8 (.ofNat (d 102)), .int .u8 (.ofNat (d 103)), .int .u8 (.ofNat (d 104)), .int .u8 (.ofNat (d 105)), .int .u8 (.ofNat (d 106)), .int .u8 (.ofNat (d 107)), .int .u8 (.ofNat (d 108)), .int .u8 (.ofNat (d 109)), .int .u8 (.ofNat (d 110)), .int .u8 (.ofNat (d 111)), .int .u8 (.ofNat (d 112)), .int .u8 (.ofNat (d 113)), .int .u8 (.ofNat (d 114)), .int .u8 (.ofNat (d 115)), .int .u8 (.ofNat (d 116)), .int .u8 (.ofNat (d 117)), .int .u8 (.ofNat (d 118)), .int .u8 (.ofNat (d 119)), .int .u8 (.ofNat (d 120)), .int .u8 (.ofNat (d 121)), .int .u8 (.ofNat (d 122)), .int .u8 (.ofNat (d 123)), .int .u8 (.ofNat (d 124)), .int .u8 (.ofNat (d 125)), .int .u8 (.ofNat (d 126)), .int .u8 (.ofNat (d 127)), .int .u8 (.ofNat (d 128)), .int .u8 (.ofNat (d 129)), .int .u8 (.ofNat (d 130)), .int .u8 (.ofNat (d 131)), .int .u8 (.ofNat (d 132)), .int .u8 (.ofNat (d 133)), .int .u8 (.ofNat (d 134)), .int .u8 (.ofNat (d 135)), .int .u8 (.ofNat (d 136)), .int .u8 (.ofNat (d 137)), .int .u8 (.ofNat (d 138)), .int .u8 (.ofNat (d 139)), .int .u8 (.ofNat (d 140)), .int .u8 (.ofNat (d 141)), .int .u8 (.ofNat (d 142)), .int .u8 (.ofNat (d 143)), .int .u8 (.ofNat (d 144)), .int .u8 (.ofNat (d 145)), .int .u8 (.ofNat (d 146)), .int .u8 (.ofNat (d 147)), .int .u8 (.ofNat (d 148)), .int .u8 (.ofNat (d 149)), .int .u8 (.ofNat (d 150)), .int .u8 (.ofNat (d 151)), .int .u8 (.ofNat (d 152)), .int .u8 (.ofNat (d 153)), .int .u8 (.ofNat (d 154)), .int .u8 (.ofNat (d 155)), .int .u8 (.ofNat (d 156)), .int .u8 (.ofNat (d 157)), .int .u8 (.ofNat (d 158)), .int .u8 (.ofNat (d 159)), .int .u8 (.ofNat (d 160)), .int .u8 (.ofNat (d 161)), .int .u8 (.ofNat (d 162)), .int .u8 (.ofNat (d 163)), .int .u8 (.ofNat (d 164)), .int .u8 (.ofNat (d 165)), .int .u8 (.ofNat (d 166)), .int .u8 (.ofNat (d 167)), .int .u8 (.ofNat (d 168)), .int .u8 (.ofNat (d 169)), .int .u8 (.ofNat (d 170)), .int .u8 (.ofNat (d 171)), .int .u8 (.ofNat (d 172)), .int .u8 (.ofNat (d 173)), .int .u8 (.ofNat (d 174)), .int .u8 (.ofNat (d 175)), .int .u8 (.ofNat (d 176)), .int .u8 (.ofNat (d 177)), .int .u8 (.ofNat (d 178)), .int .u8 (.ofNat (d 179)), .int .u8 (.ofNat (d 180)), .int .u8 (.ofNat (d 181)), .int .u8 (.ofNat (d 182)), .int .u8 (.ofNat (d 183)), .int .u8 (.ofNat (d 184)), .int .u8 (.ofNat (d 185)), .int .u8 (.ofNat (d 186)), .int .u8 (.ofNat (d 187)), .int .u8 (.ofNat (d 188)), .int .u8 (.ofNat (d 189)), .int .u8 (.ofNat (d 190)), .int .u8 (.ofNat (d 191)), .int .u8 (.ofNat (d 192)), .int .u8 (.ofNat (d 193)), .int .u8 (.ofNat (d 194)), .int .u8 (.ofNat (d 195)), .int .u8 (.ofNat (d 196)), .int .u8 (.ofNat (d 197)), .int .u8 (.ofNat (d 198)), .int .u8 (.ofNat (d 199)), .int .u8 (.ofNat (d 200)), .int .u8 (.ofNat (d 201)), .int .u8 (.ofNat (d 202)), .int .u8 (.ofNat (d 203)), .int .u8 (.ofNat (d 204)), .int .u8 (.ofNat (d 205)), .int .u8 (.ofNat (d 206)), .int .u8 (.ofNat (d 207)), .int .u8 (.ofNat (d 208)), .int .u8 (.ofNat (d 209)), .int .u8 (.ofNat (d 210)), .int .u8 (.ofNat (d 211)), .int .u8 (.ofNat (d 212)), .int .u8 (.ofNat (d 213)), .int .u8 (.ofNat (d 214)), .int .u8 (.ofNat (d 215)), .int .u8 (.ofNat (d 216)), .int .u8 (.ofNat (d 217)), .int .u8 (.ofNat (d 218)), .int .u8 (.ofNat (d 219)), .int .u8 (.ofNat (d 220)), .int .u8 (.ofNat (d 221)), .int .u8 (.ofNat (d 222)), .int .u8 (.ofNat (d 223)), .int .u8 (.ofNat (d 224)), .int .u8 (.ofNat (d 225)), .int .u8 (.ofNat (d 226)), .int .u8 (.ofNat (d 227)), .int .u8 (.ofNat (d 228)), .int .u8 (.ofNat (d 229)), .int .u8 (.ofNat (d 230)), .int .u8 (.ofNat (d 231)), .int .u8 (.ofNat (d 232)), .int .u8 (.ofNat (d 233)), .int .u8 (.ofNat (d 234)), .int .u8 (.ofNat (d 235)), .int .u8 (.ofNat (d 236)), .int .u8 (.ofNat (d 237)), .int .u8 (.ofNat (d 238)), .int .u8 (.ofNat (d 239)), .int .u8 (.ofNat (d 240)), .int .u8 (.ofNat (d 241)), .int .u8 (.ofNat (d 242)), .int .u8 (.ofNat (d 243)), .int .u8 (.ofNat (d 244)), .int .u8 (.ofNat (d 245)), .int .u8 (.ofNat (d 246)), .int .u8 (.ofNat (d 247)), .int .u8 (.ofNat (d 248)), .int .u8 (.ofNat (d 249)), .int .u8 (.ofNat (d 250)), .int .u8 (.ofNat (d 251)), .int .u8 (.ofNat (d 252)), .int .u8 (.ofNat (d 253)), .int .u8 (.ofNat (d 254)), .int .u8 (.ofNat (d 255))]
def zzL : List AV := [.int .u8 (.ofNat 0), .int .u8 (.ofNat 0), .int .u8 (.ofNat 0), .int .u8 (.ofNat 0), .int .u8 (.ofNat 0), .int .u8 (.ofNat 0), .int .u8 (.ofNat 0), .int .u8 (.ofNat 0), .int .u8 (.ofNat 0), .int .u8 (.ofNat 0), .int .u8 (.ofNat 0), .int .u8 (.ofNat 0), .int .u8 (.ofNat 0), .int .u8 (.ofNat 0), .int .u8 (.ofNat 0), .int .u8 (.ofNat 0), .int .u8 (.ofNat 0), .int .u8 (.ofNat 0), .int .u8 (.ofNat 0), .int .u8 (.ofNat 0), .int .u8 (.ofNat 0), .int .u8 (.ofNat 0), .int .u8 (.ofNat 0), .int .u8 (.ofNat 0), .int .u8 (.ofNat 0), .int .u8 (.ofNat 0), .int .u8 (.ofNat 0), .int .u8 (.ofNat 0), .int .u8 (.ofNat 0), .int .u8 (.ofNat 0), .int .u8 (.ofNat 0), .int .u8 (.ofNat 0), .int .u8 (.ofNat 0), .int .u8 (.ofNat 0), .int .u8 (.ofNat 0), .int .u8 (.ofNat 0), .int .u8 (.ofNat 0), .int .u8 (.ofNat 0), .int .u8 (.ofNat 0), .int .u8 (.ofNat 0), .int .u8 (.ofNat 0), .int .u8 (.ofNat 0), .int .u8 (.ofNat 0), .int .u8 (.ofNat 0), .int .u8 (.ofNat 0), .int .u8 (.ofNat 0), .int .u8 (.ofNat 0), .int .u8 (.ofNat 0), .int .u8 (.ofNat 0), .int .u8 (.ofNat 0), .int .u8 (.ofNat 0), .int .u8 (.ofNat 0), .int .u8 (.ofNat 0), .int .u8 (.ofNat 0), .int .u8 (.ofNat 0), .int .u8 (.ofNat 0), .int .u8 (.ofNat 0), .int .u8 (.ofNat 0), .int .u8 (.ofNat 0), .int .u8 (.ofNat 0), .int .u8 (.ofNat 0), .int .u8 (.ofNat 0), .int .u8 (.ofNat 0), .int .u8 (.ofNat 0), .int .u8 (.ofNat 0), .int .u8 (.ofNat 0), .int .u8 (.ofNat 0), .int .u8 (.ofNat 0), .int .u8 (.ofNat 0), .int .u8 (.ofNat 0), .int .u8 (.ofNat 0), .int .u8 (.ofNat 0), .int .u8 (.ofNat 0), .int .u8 (.ofNat 0), .int .u8 (.ofNat 0), .int .u8 (.ofNat 0), .int .u8 (.ofNat 0), .int .u8 (.ofNat 0), .int .u8 (.ofNat 0), .int .u8 (.ofNat 0), .int .u8 (.ofNat 0), .int .u8 (.ofNat 0), .int .u8 (.ofNat 0), .int .u8 (.ofNat 0), .int .u8 (.ofNat 0), .int .u8 (.ofNat 0), .int .u8 (.ofNat 0), .int .u8 (.ofNat 0), .int .u8 (.ofNat 0), .int .u8 (.ofNat 0), .int .u8 (.ofNat 0), .int .u8 (.ofNat 0), .int .u8 (.ofNat 0), .int .u8 (.ofNat 0), .int .u8 (.ofNat 0), .int .u8 (.ofNat 0), .int .u8 (.ofNat 0), .int .u8 (.ofNat 0), .int .u8 (.ofNat 0), .int .u8 (.ofNat 0), .int .u8 (.ofNat 0), .int .u8 (.ofNat 0), .int .u8 (.ofNat 0), .int .u8 (.ofNat 0), .int .u8 (.ofNat 0), .int .u8 (.ofNat 0), .int .u8 (.ofNat 0), .int .u8 (.ofNat 0), .int .u8 (.ofNat 0), .int .u8 (.ofNat 0), .int .u8 (.ofNat 0), .int .u8 (.ofNat 0), .int .u8 (.ofNat 0), .int .u8 (.ofNat 0), .int .u8 (.ofNat 0), .int .u8 (.ofNat 0), .int .u8 (.ofNat 0), .int .u8 (.ofNat 0), .int .u8 (.ofNat 0), .int .u8 (.ofNat 0), .int .u8 (.ofNat 0), .int .u8 (.ofNat 0), .int .u8 (.ofNat 0), .int .u8 (.ofNat 0), .int .u8 (.ofNat 0), .int .u8 (.ofNat 0), .int .u8 (.ofNat 0), .int .u8 (.ofNat 0), .int .u8 (.ofNat 0), .int .u8 (.ofNat 0), .int .u8 (.ofNat 0), .int .u8 (.ofNat 0), .int .u8 (.ofNat 0), .int .u8 (.ofNat 0), .int .u8 (.ofNat 0), .int .u8 (.ofNat 0), .int .u8 (.ofNat 0), .int .u8 (.ofNat 0), .int .u8 (.ofNat 0), .int .u8 (.ofNat 0), .int .u8 (.ofNat 0), .int .u8 (.ofNat 0), .int .u8 (.ofNat 0), .int .u8 (.ofNat 0), .int .u8 (.ofNat 0), .int .u8 (.ofNat 0), .int .u8 (.ofNat 0), .int .u8 (.ofNat 0), .int .u8 (.ofNat 0), .int .u8 (.ofNat 0), .int .u8 (.ofNat 0), .int .u8 (.ofNat 0), .int .u8 (.ofNat 0), .int .u8 (.ofNat 0), .int .u8 (.ofNat 0), .int .u8 (.ofNat 0), .int .u8 (.ofNat 0), .int .u8 (.ofNat 0), .int .u8 (.ofNat 0), .int .u8 (.ofNat 0), .int .u8 (.ofNat 0), .int .u8 (.ofNat 0), .int .u8 (.ofNat 0), .int .u8 (.ofNat 0), .int .u8 (.ofNat 0), .int .u8 (.ofNat 0), .int .u8 (.ofNat 0), .int .u8 (.ofNat 0), .int .u8 (.ofNat 0), .int .u8 (.ofNat 0), .int .u8 (.ofNat 0), .int .u8 (.ofNat 0), .int .u8 (.ofNat 0), .int .u8 (.ofNat 0), .int .u8 (.ofNat 0), .int .u8 (.ofNat 0), .int .u8 (.ofNat 0), .int .u8 (.ofNat 0), .int .u8 (.ofNat 0), .int .u8 (.ofNat 0), .int .u8 (.ofNat 0), .int .u8 (.ofNat 0), .int .u8 (.ofNat 0), .int .u8 (.ofNat 0), .int .u8 (.ofNat 0), .int .u8 (.ofNat 0), .int .u8 (.ofNat 0), .int .u8 (.ofNat 0), .int .u8 (.ofNat 0), .int .u8 (.ofNat 0), .int .u8 (.ofNat 0), .int .u8 (.ofNat 0), .int .u8 (.ofNat 0), .int .u8 (.ofNat 0), .int .u8 (.ofNat 0), .int .u8 (.ofNat 0), .int .u8 (.ofNat 0), .int .u8 (.ofNat 0), .int .u8 (.ofNat 0), .int .u8 (.ofNat 0), .int .u8 (.ofNat 0), .int .u8 (.ofNat 0), .int .u8 (.ofNat 0), .int .u8 (.ofNat 0), .int .u8 (.ofNat 0), .int .u8 (.ofNat 0), .int .u8 (.ofNat 0), .int .u8 (.ofNat 0), .int .u8 (.ofNat 0), .int .u8 (.ofNat 0), .int .u8 (.ofNat 0), .int .u8 (.ofNat 0), .int .u8 (.ofNat 0), .int .u8 (.ofNat 0), .int .u8 (.ofNat 0), .int .u8 (.ofNat 0), .int .u8 (.ofNat 0), .int .u8 (.ofNat 0), .int .u8 (.ofNat 0), .int .u8 (.ofNat 0), .int .u8 (.ofNat 0), .int .u8 (.ofNat 0), .int .u8 (.ofNat 0), .int .u8 (.ofNat 0), .int .u8 (.ofNat 0), .int .u8 (.ofNat 0), .int .u8 (.ofNat 0), .int .u8 (.ofNat 0), .int .u8 (.ofNat 0), .int .u8 (.ofNat 0), .int .u8 (.ofNat 0), .int .u8 (.ofNat 0), .int .u8 (.ofNat 0), .int .u8 (.ofNat 0), .int .u8 (.ofNat 0), .int .u8 (.ofNat 0), .int .u8 (.ofNat 0), .int .u8 (.ofNat 0), .int .u8 (.ofNat 0), .int .u8 (.ofNat 0), .int .u8 (.ofNat 0), .int .u8 (.ofNat 0), .int .u8 (.ofNat 0), .int .u8 (.ofNat 0), .int .u8 (.ofNat 0), .int .u8 (.ofNat 0), .int .u8 (.ofNat 0), .int .u8 (.ofNat 0), .int .u8 (.ofNat 0), .int .u8 (.ofNat 0), .int .u8 (.ofNat 0), .int .u8 (.ofNat 0), .int .u8 (.ofNat 0), .int .u8 (.ofNat 0), .int .u8 (.ofNat 0), .int .u8 (.ofNat 0)]
noncomputable def fnsQ : List (Nat × Func) := [(94, Try.f94), (80, Try.f80), (66, Try.f66), (67, Try.f67), (68, Try.f68), (75, Try.f75), (76, Try.f76), (140, Try.f140), (136, Try.f136)]
noncomputable def EQ : Env := envEx Try.prog [0, 3, 4, 5, 25, 28, 39, 106, 113, 115, 140] fnsQ []
noncomputable def rq (V : AV) (bad : Bool) : AO := .cells [V, .bool bad] true
noncomputable def stP (R : AO) (V : AV) (bad : Bool) : ASt := mkSt [(0, R), (1, rq V bad)] 2
noncomputable def flsU : List (Nat × Fl) := [(94, ⟨[20, 31, 38, 4095], [], [21], []⟩)]
noncomputable def tUb (s : Nat) (V : AV) (R : AO) : Tr (AV × ASt) := (TM EQ noSum [(94, fl0)] fl0 60).call 94 [.ptr (some (1, 0)), nI s] (stP R V true)
noncomputable def tU (n s : Nat) (V V' W : AV) (R : AO) : Tr (AV × ASt) := (TM EQ noSum flsU fl0 60).call 94 [.ptr (some (1, 0)), nI s] (stP R V false)
noncomputable def flsW : List (Nat × Fl) := [(94, ⟨[20, 31, 38, 4095], [], [21], []⟩), (66, ⟨[27, 28], [16], [], []⟩)]
noncomputable def tWb1 (V : AV) (R : AO) : Tr (AV × ASt) := (TM EQ noSum [(94, fl0), (66, ⟨[], [16], [], []⟩)] fl0 60).call 66 [.ptr (some (1, 0)), nI 1] (stP R V true)
noncomputable def tW1 (n o c : Nat) (b0 : Int) (V V' : AV) (R : AO) : Tr (AV × ASt) := (TM EQ noSum flsW fl0 60).call 66 [.ptr (some (1, 0)), nI 1] (stP R V false)
noncomputable def tWb2 (V : AV) (R : AO) : Tr (AV × ASt) := (TM EQ noSum [(94, fl0), (66, ⟨[], [16], [], []⟩)] fl0 60).call 66 [.ptr (some (1, 0)), nI 2] (stP R V true)
noncomputable def tW2 (n o c : Nat) (b0 b1 : Int) (V V' : AV) (R : AO) : Tr (AV × ASt) := (TM EQ noSum flsW fl0 60).call 66 [.ptr (some (1, 0)), nI 2] (stP R V false)
noncomputable def tWb8 (V : AV) (R : AO) : Tr (AV × ASt) := (TM EQ noSum [(94, fl0), (66, ⟨[], [16], [], []⟩)] fl0 60).call 66 [.ptr (some (1, 0)), nI 8] (stP R V true)
noncomputable def tW8 (n o c : Nat) (b0 b1 b2 b3 b4 b5 b6 b7 : Int) (V V' : AV) (R : AO) : Tr (AV × ASt) := (TM EQ noSum flsW fl0 60).call 66 [.ptr (some (1, 0)), nI 8] (stP R V false)
noncomputable def smQ (q : CallT) : CallT := onlyC [94, 66, 62, 93] q
noncomputable def tB67 (q : CallT) (x : Nat) (V V1 V2 W : AV) (R : AO) (bad bad1 bad2 : Bool) : Tr (AV × ASt) := (TM EQ (smQ q) [(67, ⟨[5, 9], [], [], []⟩)] fl0 60).call 67 [.ptr (some (1, 0))] (stP R V bad)
noncomputable def tE68 (n : Nat) (V : AV) (R : AO) : Tr (AV × ASt) := (TM EQ noSum [(68, ⟨[13], [], [], []⟩)] fl0 60).call 68 [.ptr (some (1, 0))] (stP R V false)
noncomputable def tEb68 (V : AV) (R : AO) : Tr (AV × ASt) := (TM EQ noSum [(68, fl0)] fl0 60).call 68 [.ptr (some (1, 0))] (stP R V true)
noncomputable def tF75 (q : CallT) (x : Nat) (V V1 : AV) (R : AO) (bad g : Bool) : Tr (AV × ASt) := (TM EQ (smQ q) [(75, ⟨[5, 13], [], [], []⟩)] fl0 60).call 75 [.ptr (some (1, 0))] (stP R V bad)
noncomputable def tFb75 (q : CallT) (x : Nat) (V V1 : AV) (R : AO) (bad : Bool) : Tr (AV × ASt) := (TM EQ (smQ q) [(75, ⟨[5], [], [], []⟩)] fl0 60).call 75 [.ptr (some (1, 0))] (stP R V bad)
noncomputable def tF140 (q : CallT) (x : Nat) (V V1 : AV) (R : AO) (bad bad1 : Bool) : Tr (AV × ASt) := (TM EQ (smQ q) [(140, ⟨[5], [], [7], []⟩)] fl0 60).call 140 [.ptr (some (1, 0))] (stR R V bad)
noncomputable def tK76 (q : CallT) (o : Nat) (c : Cap) (V V1 : AV) (R : AO) (d : Nat → Nat) (bad bad1 : Bool) : Tr (AV × ASt) := (TM EQ (smQ q) [(76, ⟨[6, 7], [], [], []⟩)] fl0 60).call 76 [.ptr (some (1, 0))] (stP R V bad)
noncomputable def tKb76 (q : CallT) (V V1 : AV) (R : AO) (bad bad1 : Bool) : Tr (AV × ASt) := (TM EQ (smQ q) [(76, ⟨[6], [], [], []⟩)] fl0 60).call 76 [.ptr (some (1, 0))] (stP R V bad)
noncomputable def tK136 (q : CallT) (o : Nat) (c : Cap) (V V1 : AV) (R : AO) (d : Nat → Nat) (bad bad1 : Bool) : Tr (AV × ASt) := (TM EQ (smQ q) [(136, ⟨[5, 6], [], [], []⟩)] fl0 60).call 136 [.ptr (some (1, 0))] (stR R V bad)
noncomputable def tKb136 (q : CallT) (V V1 : AV) (R : AO) (bad bad1 : Bool) : Tr (AV × ASt) := (TM EQ (smQ q) [(136, ⟨[5], [], [], []⟩)] fl0 60).call 136 [.ptr (some (1, 0))] (stR R V bad)
noncomputable def vcUb_s0 (s : Nat) (V : AV) (R : AO) : ASt := mkSt [(0, R), (1, AO.cells [V, AV.bool true] true)] 2
theorem vcUb (s : Nat) (V : AV) (R : AO) (Q : AV × ASt → Prop) :
  (Q (AV.slice none 0 (Cap.known 0), vcUb_s0 s V R)) =
  (tUb s V R).allY (fun r => Q (r.1, canS [0, 1] r.2)) (An.nil) := by kernel_rfl
noncomputable def vcU_s0 (n : Nat) (s : Nat) (V : AV) (V' : AV) (W : AV) (R : AO) : ASt := mkSt [(0, R), (1, AO.cells [V, AV.bool false] true)] 2
noncomputable def vcU_s1 (n : Nat) (s : Nat) (V : AV) (V' : AV) (W : AV) (R : AO) : ASt := mkSt [(0, R), (1, AO.cells [V, AV.bool true] true)] 2
noncomputable def vcU_s2 (n : Nat) (s : Nat) (V : AV) (V' : AV) (W : AV) (R : AO) : ASt := mkSt [(0, R), (1, AO.cells [V', AV.bool false] true)] 2
theorem vcU (n : Nat) (s : Nat) (V : AV) (V' : AV) (W : AV) (R : AO) (Q : AV × ASt → Prop) :
  (aBuiltinM EQ Builtin.len [25] [V] (vcU_s0 n s V V' W R) = some (AV.int IntKind.i64 (Int.ofNat n), vcU_s0 n s V V' W R) ∧ ifB (ltF (Int.ofNat n) (Int.ofNat s)) (Option.map (fun s => (undefA, s)) (aStore EQ 4 (AV.ptr (some (1, 1))) (AV.bool true) (vcU_s0 n s V V' W R)) = some (AV.tuple [], vcU_s1 n s V V' W R) ∧ Q (AV.slice none 0 (Cap.known 0), vcU_s1 n s V V' W R)) (still (vcU_s0 n s V V' W R) (aSlice EQ 25 V none (some (AV.int IntKind.i64 (Int.ofNat s))) none (vcU_s0 n s V V' W R)) = some (W, vcU_s0 n s V V' W R) ∧ still (vcU_s0 n s V V' W R) (aSlice EQ 25 V (some (AV.int IntKind.i64 (Int.ofNat s))) none none (vcU_s0 n s V V' W R)) = some (V', vcU_s0 n s V V' W R) ∧ Option.map (fun s => (undefA, s)) (aStore EQ 25 (AV.ptr (some (1, 0))) V' (vcU_s0 n s V V' W R)) = some (AV.tuple [], vcU_s2 n s V V' W R) ∧ Q (W, vcU_s2 n s V V' W R))) =
  (tU n s V V' W R).allY (fun r => Q (r.1, canS [0, 1] r.2)) (An.v (AV.int IntKind.i64 (Int.ofNat n), vcU_s0 n s V V' W R) (An.b (An.v (AV.tuple [], vcU_s1 n s V V' W R) An.nil) (An.v (W, vcU_s0 n s V V' W R) (An.v (V', vcU_s0 n s V V' W R) (An.v (AV.tuple [], vcU_s2 n s V V' W R) An.nil))))) := by kernel_rfl
noncomputable def vcWb1_s0 (V : AV) (R : AO) : ASt := mkSt [(0, R), (1, AO.cells [V, AV.bool true] true)] 2
theorem vcWb1 (V : AV) (R : AO) (Q : AV × ASt → Prop) :
  (Q (AV.int IntKind.u64 (Int.ofNat 0), vcWb1_s0 V R)) =
  (tWb1 V R).allY (fun r => Q (r.1, canS [0, 1] r.2)) (An.nil) := by kernel_rfl
noncomputable def vcW1_s0 (n : Nat) (o : Nat) (c : Nat) (b0 : Int) (V : AV) (V' : AV) (R : AO) : ASt := mkSt [(0, R), (1, AO.cells [V, AV.bool false] true)] 2
noncomputable def vcW1_s1 (n : Nat) (o : Nat) (c : Nat) (b0 : Int) (V : AV) (V' : AV) (R : AO) : ASt := mkSt [(0, R), (1, AO.cells [V, AV.bool true] true)] 2
noncomputable def vcW1_s2 (n : Nat) (o : Nat) (c : Nat) (b0 : Int) (V : AV) (V' : AV) (R : AO) : ASt := mkSt [(0, R), (1, AO.cells [V', AV.bool false] true)] 2
theorem vcW1 (n : Nat) (o : Nat) (c : Nat) (b0 : Int) (V : AV) (V' : AV) (R : AO) (Q : AV × ASt → Prop) :
  (aBuiltinM EQ Builtin.len [25] [V] (vcW1_s0 n o c b0 V V' R) = some (AV.int IntKind.i64 (Int.ofNat n), vcW1_s0 n o c b0 V V' R) ∧ ifB (ltF (Int.ofNat n) (Int.ofNat 1)) (Option.map (fun s => (undefA, s)) (aStore EQ 4 (AV.ptr (some (1, 1))) (AV.bool true) (vcW1_s0 n o c b0 V V' R)) = some (AV.tuple [], vcW1_s1 n o c b0 V V' R) ∧ Q (AV.int IntKind.u64 (Int.ofNat 0), vcW1_s1 n o c b0 V V' R)) (still (vcW1_s0 n o c b0 V V' R) (aSlice EQ 25 V none (some (AV.int IntKind.i64 (Int.ofNat 1))) none (vcW1_s0 n o c b0 V V' R)) = some (AV.slice (some (0, o)) 1 (Cap.atl c), vcW1_s0 n o c b0 V V' R) ∧ still (vcW1_s0 n o c b0 V V' R) (aSlice EQ 25 V (some (AV.int IntKind.i64 (Int.ofNat 1))) none none (vcW1_s0 n o c b0 V V' R)) = some (V', vcW1_s0 n o c b0 V V' R) ∧ Option.map (fun s => (undefA, s)) (aStore EQ 25 (AV.ptr (some (1, 0))) V' (vcW1_s0 n o c b0 V V' R)) = some (AV.tuple [], vcW1_s2 n o c b0 V V' R) ∧ still (vcW1_s2 n o c b0 V V' R) (aIndexAddr EQ 25 (AV.slice (some (0, o)) 1 (Cap.atl c)) (AV.int IntKind.i64 (Int.ofNat 0))) = some (AV.ptr (some (0, o + 0)), vcW1_s2 n o c b0 V V' R) ∧ aLoad EQ 5 (AV.ptr (some (0, o + 0))) (vcW1_s2 n o c b0 V V' R) = some (AV.int IntKind.u8 b0, vcW1_s2 n o c b0 V V' R) ∧ Q (AV.int IntKind.u64 (wrapF IntKind.u64 (Int.ofNat 0 + wrapF IntKind.u64 b0)), vcW1_s2 n o c b0 V V' R))) =
  (tW1 n o c b0 V V' R).allY (fun r => Q (r.1, canS [0, 1] r.2)) (An.v (AV.int IntKind.i64 (Int.ofNat n), vcW1_s0 n o c b0 V V' R) (An.b (An.v (AV.tuple [], vcW1_s1 n o c b0 V V' R) An.nil) (An.v (AV.slice (some (0, o)) 1 (Cap.atl c), vcW1_s0 n o c b0 V V' R) (An.v (V', vcW1_s0 n o c b0 V V' R) (An.v (AV.tuple [], vcW1_s2 n o c b0 V V' R) (An.v (AV.ptr (some (0, o + 0)), vcW1_s2 n o c b0 V V' R) (An.v (AV.int IntKind.u8 b0, vcW1_s2 n o c b0 V V' R) An.nil))))))) := by kernel_rfl
noncomputable def vcWb2_s0 (V : AV) (R : AO) : ASt := mkSt [(0, R), (1, AO.cells [V, AV.bool true] true)] 2
theorem vcWb2 (V : AV) (R : AO) (Q : AV × ASt → Prop) :
  (Q (AV.int IntKind.u64 (Int.ofNat 0), vcWb2_s0 V R)) =
  (tWb2 V R).allY (fun r => Q (r.1, canS [0, 1] r.2)) (An.nil) := by kernel_rfl
noncomputable def vcW2_s0 (n : Nat) (o : Nat) (c : Nat) (b0 : Int) (b1 : Int) (V : AV) (V' : AV) (R : AO) : ASt := mkSt [(0, R), (1, AO.cells [V, AV.bool false] true)] 2
noncomputable def vcW2_s1 (n : Nat) (o : Nat) (c : Nat) (b0 : Int) (b1 : Int) (V : AV) (V' : AV) (R : AO) : ASt := mkSt [(0, R), (1, AO.cells [V, AV.bool true] true)] 2
noncomputable def vcW2_s2 (n : Nat) (o : Nat) (c : Nat) (b0 : Int) (b1 : Int) (V : AV) (V' : AV) (R : AO) : ASt := mkSt [(0, R), (1, AO.cells [V', AV.bool false] true)] 2
theorem vcW2 (n : Nat) (o : Nat) (c : Nat) (b0 : Int) (b1 : Int) (V : AV) (V' : AV) (R : AO) (Q : AV × ASt → Prop) :
  (aBuiltinM EQ Builtin.len [25] [V] (vcW2_s0 n o c b0 b1 V V' R) = some (AV.int IntKind.i64 (Int.ofNat n), vcW2_s0 n o c b0 b1 V V' R) ∧ ifB (ltF (Int.ofNat n) (Int.ofNat 2)) (Option.map (fun s => (undefA, s)) (aStore EQ 4 (AV.ptr (some (1, 1))) (AV.bool true) (vcW2_s0 n o c b0 b1 V V' R)) = some (AV.tuple [], vcW2_s1 n o c b0 b1 V V' R) ∧ Q (AV.int IntKind.u64 (Int.ofNat 0), vcW2_s1 n o c b0 b1 V V' R)) (still (vcW2_s0 n o c b0 b1 V V' R) (aSlice EQ 25 V none (some (AV.int IntKind.i64 (Int.ofNat 2))) none (vcW2_s0 n o c b0 b1 V V' R)) = some (AV.slice (some (0, o)) 2 (Cap.atl c), vcW2_s0 n o c b0 b1 V V' R) ∧ still (vcW2_s0 n o c b0 b1 V V' R) (aSlice EQ 25 V (some (AV.int IntKind.i64 (Int.ofNat 2))) none none (vcW2_s0 n o c b0 b1 V V' R)) = some (V', vcW2_s0 n o c b0 b1 V V' R) ∧ Option.map (fun s => (undefA, s)) (aStore EQ 25 (AV.ptr (some (1, 0))) V' (vcW2_s0 n o c b0 b1 V V' R)) = some (AV.tuple [], vcW2_s2 n o c b0 b1 V V' R) ∧ still (vcW2_s2 n o c b0 b1 V V' R) (aIndexAddr EQ 25 (AV.slice (some (0, o)) 2 (Cap.atl c)) (AV.int IntKind.i64 (Int.ofNat 0))) = some (AV.ptr (some (0, o + 0)), vcW2_s2 n o c b0 b1 V V' R) ∧ aLoad EQ 5 (AV.ptr (some (0, o + 0))) (vcW2_s2 n o c b0 b1 V V' R) = some (AV.int IntKind.u8 b0, vcW2_s2 n o c b0 b1 V V' R) ∧ still (vcW2_s2 n o c b0 b1 V V' R) (aIndexAddr EQ 25 (AV.slice (some (0, o)) 2 (Cap.atl c)) (AV.int IntKind.i64 (Int.ofNat 1))) = some (AV.ptr (some (0, o + 1)), vcW2_s2 n o c b0 b1 V V' R) ∧ aLoad EQ 5 (AV.ptr (some (0, o + 1))) (vcW2_s2 n o c b0 b1 V V' R) = some (AV.int IntKind.u8 b1, vcW2_s2 n o c b0 b1 V V' R) ∧ Q (AV.int IntKind.u64 (wrapF IntKind.u64 (wrapF IntKind.u64 (Int.ofNat 256 * wrapF IntKind.u64 (Int.ofNat 0 + wrapF IntKind.u64 b0)) + wrapF IntKind.u64 b1)), vcW2_s2 n o c b0 b1 V V' R))) =
  (tW2 n o c b0 b1 V V' R).allY (fun r => Q (r.1, canS [0, 1] r.2)) (An.v (AV.int IntKind.i64 (Int.ofNat n), vcW2_s0 n o c b0 b1 V V' R) (An.b (An.v (AV.tuple [], vcW2_s1 n o c b0 b1 V V' R) An.nil) (An.v (AV.slice (some (0, o)) 2 (Cap.atl c), vcW2_s0 n o c b0 b1 V V' R) (An.v (V', vcW2_s0 n o c b0 b1 V V' R) (An.v (AV.tuple [], vcW2_s2 n o c b0 b1 V V' R) (An.v (AV.ptr (some (0, o + 0)), vcW2_s2 n o c b0 b1 V V' R) (An.v (AV.int IntKind.u8 b0, vcW2_s2 n o c b0 b1 V V' R) (An.v (AV.ptr (some (0, o + 1)), vcW2_s2 n o c b0 b1 V V' R) (An.v (AV.int IntKind.u8 b1, vcW2_s2 n o c b0 b1 V V' R) An.nil))))))))) := by kernel_rfl
noncomputable def vcWb8_s0 (V : AV) (R : AO) : ASt := mkSt [(0, R), (1, AO.cells [V, AV.bool true] true)] 2
theorem vcWb8 (V : AV) (R : AO) (Q : AV × ASt → Prop) :
  (Q (AV.int IntKind.u64 (Int.ofNat 0), vcWb8_s0 V R)) =
  (tWb8 V R).allY (fun r => Q (r.1, canS [0, 1] r.2)) (An.nil) := by kernel_rfl
noncomputable def vcW8_s0 (n : Nat) (o : Nat) (c : Nat) (b0 : Int) (b1 : Int) (b2 : Int) (b3 : Int) (b4 : Int) (b5 : Int) (b6 : Int) (b7 : Int) (V : AV) (V' : AV) (R : AO) : ASt := mkSt [(0, R), (1, AO.cells [V, AV.bool false] true)] 2
noncomputable def vcW8_s1 (n : Nat) (o : Nat) (c : Nat) (b0 : Int) (b1 : Int) (b2 : Int) (b3 : Int) (b4 : Int) (b5 : Int) (b6 : Int) (b7 : Int) (V : AV) (V' : AV) (R : AO) : ASt := mkSt [(0, R), (1, AO.cells [V, AV.bool true] true)] 2
noncomputable def vcW8_s2 (n : Nat) (o : Nat) (c : Nat) (b0 : Int) (b1 : Int) (b2 : Int) (b3 : Int) (b4 : Int) (b5 : Int) (b6 : Int) (b7 : Int) (V : AV) (V' : AV) (R : AO) : ASt := mkSt [(0, R), (1, AO.cells [V', AV.bool false] true)] 2
theorem vcW8 (n : Nat) (o : Nat) (c : Nat) (b0 : Int) (b1 : Int) (b2 : Int) (b3 : Int) (b4 : Int) (b5 : Int) (b6 : Int) (b7 : Int) (V : AV) (V' : AV) (R : AO) (Q : AV × ASt → Prop) :
  (aBuiltinM EQ Builtin.len [25] [V] (vcW8_s0 n o c b0 b1 b2 b3 b4 b5 b6 b7 V V' R) = some (AV.int IntKind.i64 (Int.ofNat n), vcW8_s0 n o c b0 b1 b2 b3 b4 b5 b6 b7 V V' R) ∧ ifB (ltF (Int.ofNat n) (Int.ofNat 8)) (Option.map (fun s => (undefA, s)) (aStore EQ 4 (AV.ptr (some (1, 1))) (AV.bool true) (vcW8_s0 n o c b0 b1 b2 b3 b4 b5 b6 b7 V V' R)) = some (AV.tuple [], vcW8_s1 n o c b0 b1 b2 b3 b4 b5 b6 b7 V V' R) ∧ Q (AV.int IntKind.u64 (Int.ofNat 0), vcW8_s1 n o c b0 b1 b2 b3 b4 b5 b6 b7 V V' R)) (still (vcW8_s0 n o c b0 b1 b2 b3 b4 b5 b6 b7 V V' R) (aSlice EQ 25 V none (some (AV.int IntKind.i64 (Int.ofNat 8))) none (vcW8_s0 n o c b0 b1 b2 b3 b4 b5 b6 b7 V V' R)) = some (AV.slice (some (0, o)) 8 (Cap.atl c), vcW8_s0 n o c b0 b1 b2 b3 b4 b5 b6 b7 V V' R) ∧ still (vcW8_s0 n o c b0 b1 b2 b3 b4 b5 b6 b7 V V' R) (aSlice EQ 25 V (some (AV.int IntKind.i64 (Int.ofNat 8))) none none (vcW8_s0 n o c b0 b1 b2 b3 b4 b5 b6 b7 V V' R)) = some (V', vcW8_s0 n o c b0 b1 b2 b3 b4 b5 b6 b7 V V' R) ∧ Option.map (fun s => (undefA, s)) (aStore EQ 25 (AV.ptr (some (1, 0))) V' (vcW8_s0 n o c b0 b1 b2 b3 b4 b5 b6 b7 V V' R)) = some (AV.tuple [], vcW8_s2 n o c b0 b1 b2 b3 b4 b5 b6 b7 V V' R) ∧ still (vcW8_s2 n o c b0 b1 b2 b3 b4 b5 b6 b7 V V' R) (aIndexAddr EQ 25 (AV.slice (some (0, o)) 8 (Cap.atl c)) (AV.int IntKind.i64 (Int.ofNat 0))) = some (AV.ptr (some (0, o + 0)), vcW8_s2 n o c b0 b1 b2 b3 b4 b5 b6 b7 V V' R) ∧ aLoad EQ 5 (AV.ptr (some (0, o + 0))) (vcW8_s2 n o c b0 b1 b2 b3 b4 b5 b6 b7 V V' R) = some (AV.int IntKind.u8 b0, vcW8_s2 n o c b0 b1 b2 b3 b4 b5 b6 b7 V V' R) ∧ still (vcW8_s2 n o c b0 b1 b2 b3 b4 b5 b6 b7 V V' R) (aIndexAddr EQ 25 (AV.slice (some (0, o)) 8 (Cap.atl c)) (AV.int IntKind.i64 (Int.ofNat 1))) = some (AV.ptr (some (0, o + 1)), vcW8_s2 n o c b0 b1 b2 b3 b4 b5 b6 b7 V V' R) ∧ aLoad EQ 5 (AV.ptr (some (0, o + 1))) (vcW8_s2 n o c b0 b1 b2 b3 b4 b5 b6 b7 V V' R) = some (AV.int IntKind.u8 b1, vcW8_s2 n o c b0 b1 b2 b3 b4 b5 b6 b7 V V' R) ∧ still (vcW8_s2 n o c b0 b1 b2 b3 b4 b5 b6 b7 V V' R) (aIndexAddr EQ 25 (AV.slice (some (0, o)) 8 (Cap.atl c)) (AV.int IntKind.i64 (Int.ofNat 2))) = some (AV.ptr (some (0, o + 2)), vcW8_s2 n o c b0 b1 b2 b3 b4 b5 b6 b7 V V' R) ∧ aLoad EQ 5 (AV.ptr (some (0, o + 2))) (vcW8_s2 n o c b0 b1 b2 b3 b4 b5 b6 b7 V V' R) = some (AV.int IntKind.u8 b2, vcW8_s2 n o c b0 b1 b2 b3 b4 b5 b6 b7 V V' R) ∧ still (vcW8_s2 n o c b0 b1 b2 b3 b4 b5 b6 b7 V V' R) (aIndexAddr EQ 25 (AV.slice (some (0, o)) 8 (Cap.atl c)) (AV.int IntKind.i64 (Int.ofNat 3))) = some (AV.ptr (some (0, o + 3)), vcW8_s2 n o c b0 b1 b2 b3 b4 b5 b6 b7 V V' R) ∧ aLoad EQ 5 (AV.ptr (some (0, o + 3))) (vcW8_s2 n o c b0 b1 b2 b3 b4 b5 b6 b7 V V' R) = some (AV.int IntKind.u8 b3, vcW8_s2 n o c b0 b1 b2 b3 b4 b5 b6 b7 V V' R) ∧ still (vcW8_s2 n o c b0 b1 b2 b3 b4 b5 b6 b7 V V' R) (aIndexAddr EQ 25 (AV.slice (some (0, o)) 8 (Cap.atl c)) (AV.int IntKind.i64 (Int.ofNat 4))) = some (AV.ptr (some (0, o + 4)), vcW8_s2 n o c b0 b1 b2 b3 b4 b5 b6 b7 V V' R) ∧ aLoad EQ 5 (AV.ptr (some (0, o + 4))) (vcW8_s2 n o c b0 b1 b2 b3 b4 b5 b6 b7 V V' R) = some (AV.int IntKind.u8 b4, vcW8_s2 n o c b0 b1 b2 b3 b4 b5 b6 b7 V V' R) ∧ still (vcW8_s2 n o c b0 b1 b2 b3 b4 b5 b6 b7 V V' R) (aIndexAddr EQ 25 (AV.slice (some (0, o)) 8 (Cap.atl c)) (AV.int IntKind.i64 (Int.ofNat 5))) = some (AV.ptr (some (0, o + 5)), vcW8_s2 n o c b0 b1 b2 b3 b4 b5 b6 b7 V V' R) ∧ aLoad EQ 5 (AV.ptr (some (0, o + 5))) (vcW8_s2 n o c b0 b1 b2 b3 b4 b5 b6 b7 V V' R) = some (AV.int IntKind.u8 b5, vcW8_s2 n o c b0 b1 b2 b3 b4 b5 b6 b7 V V' R) ∧ still (vcW8_s2 n o c b0 b1 b2 b3 b4 b5 b6 b7 V V' R) (aIndexAddr EQ 25 (AV.slice (some (0, o)) 8 (Cap.atl c)) (AV.int IntKind.i64 (Int.ofNat 6))) = some (AV.ptr (some (0, o + 6)), vcW8_s2 n o c b0 b1 b2 b3 b4 b5 b6 b7 V V' R) ∧ aLoad EQ 5 (AV.ptr (some (0, o + 6))) (vcW8_s2 n o c b0 b1 b2 b3 b4 b5 b6 b7 V V' R) = some (AV.int IntKind.u8 b6, vcW8_s2 n o c b0 b1 b2 b3 b4 b5 b6 b7 V V' R) ∧ still (vcW8_s2 n o c b0 b1 b2 b3 b4 b5 b6 b7 V V' R) (aIndexAddr EQ 25 (AV.slice (some (0, o)) 8 (Cap.atl c)) (AV.int IntKind.i64 (Int.ofNat 7))) = some (AV.ptr (some (0, o + 7)), vcW8_s2 n o c b0 b1 b2 b3 b4 b5 b6 b7 V V' R) ∧ aLoad EQ 5 (AV.ptr (some (0, o + 7))) (vcW8_s2 n o c b0 b1 b2 b3 b4 b5 b6 b7 V V' R) = some (AV.int IntKind.u8 b7, vcW8_s2 n o c b0 b1 b2 b3 b4 b5 b6 b7 V V' R) ∧ Q (AV.int IntKind.u64 (wrapF IntKind.u64 (wrapF IntKind.u64 (Int.ofNat 256 * wrapF IntKind.u64 (wrapF IntKind.u64 (Int.ofNat 256 * wrapF IntKind.u64 (wrapF IntKind.u64 (Int.ofNat 256 * wrapF IntKind.u64 (wrapF IntKind.u64 (Int.ofNat 256 * wrapF IntKind.u64 (wrapF IntKind.u64 (Int.ofNat 256 * wrapF IntKind.u64 (wrapF IntKind.u64 (Int.ofNat 256 * wrapF IntKind.u64 (wrapF IntKind.u64 (Int.ofNat 256 * wrapF IntKind.u64 (Int.ofNat 0 + wrapF IntKind.u64 b0)) + wrapF IntKind.u64 b1)) + wrapF IntKind.u64 b2)) + wrapF IntKind.u64 b3)) + wrapF IntKind.u64 b4)) + wrapF IntKind.u64 b5)) + wrapF IntKind.u64 b6)) + wrapF IntKind.u64 b7)), vcW8_s2 n o c b0 b1 b2 b3 b4 b5 b6 b7 V V' R))) =
  (tW8 n o c b0 b1 b2 b3 b4 b5 b6 b7 V V' R).allY (fun r => Q (r.1, canS [0, 1] r.2)) (An.v (AV.int IntKind.i64 (Int.ofNat n), vcW8_s0 n o c b0 b1 b2 b3 b4 b5 b6 b7 V V' R) (An.b (An.v (AV.tuple [], vcW8_s1 n o c b0 b1 b2 b3 b4 b5 b6 b7 V V' R) An.nil) (An.v (AV.slice (some (0, o)) 8 (Cap.atl c), vcW8_s0 n o c b0 b1 b2 b3 b4 b5 b6 b7 V V' R) (An.v (V', vcW8_s0 n o c b0 b1 b2 b3 b4 b5 b6 b7 V V' R) (An.v (AV.tuple [], vcW8_s2 n o c b0 b1 b2 b3 b4 b5 b6 b7 V V' R) (An.v (AV.ptr (some (0, o + 0)), vcW8_s2 n o c b0 b1 b2 b3 b4 b5 b6 b7 V V' R) (An.v (AV.int IntKind.u8 b0, vcW8_s2 n o c b0 b1 b2 b3 b4 b5 b6 b7 V V' R) (An.v (AV.ptr (some (0, o + 1)), vcW8_s2 n o c b0 b1 b2 b3 b4 b5 b6 b7 V V' R) (An.v (AV.int IntKind.u8 b1, vcW8_s2 n o c b0 b1 b2 b3 b4 b5 b6 b7 V V' R) (An.v (AV.ptr (some (0, o + 2)), vcW8_s2 n o c b0 b1 b2 b3 b4 b5 b6 b7 V V' R) (An.v (AV.int IntKind.u8 b2, vcW8_s2 n o c b0 b1 b2 b3 b4 b5 b6 b7 V V' R) (An.v (AV.ptr (some (0, o + 3)), vcW8_s2 n o c b0 b1 b2 b3 b4 b5 b6 b7 V V' R) (An.v (AV.int IntKind.u8 b3, vcW8_s2 n o c b0 b1 b2 b3 b4 b5 b6 b7 V V' R) (An.v (AV.ptr (some (0, o + 4)), vcW8_s2 n o c b0 b1 b2 b3 b4 b5 b6 b7 V V' R) (An.v (AV.int IntKind.u8 b4, vcW8_s2 n o c b0 b1 b2 b3 b4 b5 b6 b7 V V' R) (An.v (AV.ptr (some (0, o + 5)), vcW8_s2 n o c b0 b1 b2 b3 b4 b5 b6 b7 V V' R) (An.v (AV.int IntKind.u8 b5, vcW8_s2 n o c b0 b1 b2 b3 b4 b5 b6 b7 V V' R) (An.v (AV.ptr (some (0, o + 6)), vcW8_s2 n o c b0 b1 b2 b3 b4 b5 b6 b7 V V' R) (An.v (AV.int IntKind.u8 b6, vcW8_s2 n o c b0 b1 b2 b3 b4 b5 b6 b7 V V' R) (An.v (AV.ptr (some (0, o + 7)), vcW8_s2 n o c b0 b1 b2 b3 b4 b5 b6 b7 V V' R) (An.v (AV.int IntKind.u8 b7, vcW8_s2 n o c b0 b1 b2 b3 b4 b5 b6 b7 V V' R) An.nil))))))))))))))))))))) := by kernel_rfl
noncomputable def vcB67_s0 (x : Nat) (V : AV) (V1 : AV) (V2 : AV) (W : AV) (R : AO) (bad : Bool) (bad1 : Bool) (bad2 : Bool) : ASt := mkSt [(0, R), (1, AO.cells [V, AV.bool bad] true)] 2
noncomputable def vcB67_s1 (x : Nat) (V : AV) (V1 : AV) (V2 : AV) (W : AV) (R : AO) (bad : Bool) (bad1 : Bool) (bad2 : Bool) : ASt := mkSt [(0, R), (1, AO.cells [V1, AV.bool bad1] true)] 2
noncomputable def vcB67_s2 (x : Nat) (V : AV) (V1 : AV) (V2 : AV) (W : AV) (R : AO) (bad : Bool) (bad1 : Bool) (bad2 : Bool) : ASt := mkSt [(0, R), (1, AO.cells [V2, AV.bool bad2] true)] 2
theorem vcB67 (q : CallT) (x : Nat) (V : AV) (V1 : AV) (V2 : AV) (W : AV) (R : AO) (bad : Bool) (bad1 : Bool) (bad2 : Bool) (Q : AV × ASt → Prop) :
  ((M EQ (drawA EQ) (smQ q) 56).call 66 [AV.ptr (some (1, 0)), AV.int IntKind.i64 (Int.ofNat 2)] (vcB67_s0 x V V1 V2 W R bad bad1 bad2) = some (AV.int IntKind.u64 (Int.ofNat x), vcB67_s1 x V V1 V2 W R bad bad1 bad2) ∧ (M EQ (drawA EQ) (smQ q) 55).call 94 [AV.ptr (some (1, 0)), AV.int IntKind.i64 (wrapF IntKind.i64 (Int.ofNat x))] (vcB67_s1 x V V1 V2 W R bad bad1 bad2) = some (W, vcB67_s2 x V V1 V2 W R bad bad1 bad2) ∧ Q (W, vcB67_s2 x V V1 V2 W R bad bad1 bad2)) =
  (tB67 q x V V1 V2 W R bad bad1 bad2).allY (fun r => Q (r.1, canS [0, 1] r.2)) (An.v (AV.int IntKind.u64 (Int.ofNat x), vcB67_s1 x V V1 V2 W R bad bad1 bad2) (An.v (W, vcB67_s2 x V V1 V2 W R bad bad1 bad2) An.nil)) := by kernel_rfl
noncomputable def vcE68_s0 (n : Nat) (V : AV) (R : AO) : ASt := mkSt [(0, R), (1, AO.cells [V, AV.bool false] true)] 2
theorem vcE68 (n : Nat) (V : AV) (R : AO) (Q : AV × ASt → Prop) :
  (aBuiltinM EQ Builtin.len [25] [V] (vcE68_s0 n V R) = some (AV.int IntKind.i64 (Int.ofNat n), vcE68_s0 n V R) ∧ Q (AV.bool (eqF (Int.ofNat n) (Int.ofNat 0)), vcE68_s0 n V R)) =
  (tE68 n V R).allY (fun r => Q (r.1, canS [0, 1] r.2)) (An.v (AV.int IntKind.i64 (Int.ofNat n), vcE68_s0 n V R) An.nil) := by kernel_rfl
noncomputable def vcEb68_s0 (V : AV) (R : AO) : ASt := mkSt [(0, R), (1, AO.cells [V, AV.bool true] true)] 2
theorem vcEb68 (V : AV) (R : AO) (Q : AV × ASt → Prop) :
  (Q (AV.bool false, vcEb68_s0 V R)) =
  (tEb68 V R).allY (fun r => Q (r.1, canS [0, 1] r.2)) (An.nil) := by kernel_rfl
noncomputable def vcF75_s0 (x : Nat) (V : AV) (V1 : AV) (R : AO) (bad : Bool) (g : Bool) : ASt := mkSt [(0, R), (1, AO.cells [V, AV.bool bad] true)] 2
noncomputable def vcF75_s1 (x : Nat) (V : AV) (V1 : AV) (R : AO) (bad : Bool) (g : Bool) : ASt := mkSt [(0, R), (1, AO.cells [V1, AV.bool false] true)] 2
noncomputable def vcF75_s2 (x : Nat) (V : AV) (V1 : AV) (R : AO) (bad : Bool) (g : Bool) : ASt := mkSt [(0, R), (1, AO.cells [V1, AV.bool g] true)] 2
theorem vcF75 (q : CallT) (x : Nat) (V : AV) (V1 : AV) (R : AO) (bad : Bool) (g : Bool) (Q : AV × ASt → Prop) :
  ((M EQ (drawA EQ) (smQ q) 56).call 66 [AV.ptr (some (1, 0)), AV.int IntKind.i64 (Int.ofNat 1)] (vcF75_s0 x V V1 R bad g) = some (AV.int IntKind.u64 (Int.ofNat x), vcF75_s1 x V V1 R bad g) ∧ still (vcF75_s1 x V V1 R bad g) (aBin EQ BinOp.gtr 28 (Operand.tmp 12) (Operand.const (Value.int IntKind.u64 1)) (AV.int IntKind.u64 (Int.ofNat x)) (AV.int IntKind.u64 (Int.ofNat 1))) = some (AV.bool g, vcF75_s1 x V V1 R bad g) ∧ Q (AV.bool (eqF (Int.ofNat x) (Int.ofNat 1)), vcF75_s2 x V V1 R bad g)) =
  (tF75 q x V V1 R bad g).allY (fun r => Q (r.1, canS [0, 1] r.2)) (An.v (AV.int IntKind.u64 (Int.ofNat x), vcF75_s1 x V V1 R bad g) (An.v (AV.bool g, vcF75_s1 x V V1 R bad g) An.nil)) := by kernel_rfl
noncomputable def vcFb75_s0 (x : Nat) (V : AV) (V1 : AV) (R : AO) (bad : Bool) : ASt := mkSt [(0, R), (1, AO.cells [V, AV.bool bad] true)] 2
noncomputable def vcFb75_s1 (x : Nat) (V : AV) (V1 : AV) (R : AO) (bad : Bool) : ASt := mkSt [(0, R), (1, AO.cells [V1, AV.bool true] true)] 2
theorem vcFb75 (q : CallT) (x : Nat) (V : AV) (V1 : AV) (R : AO) (bad : Bool) (Q : AV × ASt → Prop) :
  ((M EQ (drawA EQ) (smQ q) 56).call 66 [AV.ptr (some (1, 0)), AV.int IntKind.i64 (Int.ofNat 1)] (vcFb75_s0 x V V1 R bad) = some (AV.int IntKind.u64 (Int.ofNat x), vcFb75_s1 x V V1 R bad) ∧ Q (AV.bool (eqF (Int.ofNat x) (Int.ofNat 1)), vcFb75_s1 x V V1 R bad)) =
  (tFb75 q x V V1 R bad).allY (fun r => Q (r.1, canS [0, 1] r.2)) (An.v (AV.int IntKind.u64 (Int.ofNat x), vcFb75_s1 x V V1 R bad) An.nil) := by kernel_rfl
noncomputable def vcF140_s0 (x : Nat) (V : AV) (V1 : AV) (R : AO) (bad : Bool) (bad1 : Bool) : ASt := mkSt [(0, R), (1, AO.cells [V, AV.bool bad, AV.bool true] true)] 2
noncomputable def vcF140_s1 (x : Nat) (V : AV) (V1 : AV) (R : AO) (bad : Bool) (bad1 : Bool) : ASt := mkSt [(0, R), (1, AO.cells [V1, AV.bool bad1, AV.bool true] true)] 2
noncomputable def vcF140_s2 (x : Nat) (V : AV) (V1 : AV) (R : AO) (bad : Bool) (bad1 : Bool) : ASt := mkSt [(0, R), (1, AO.cells [V1, AV.bool true, AV.bool true] true)] 2
theorem vcF140 (q : CallT) (x : Nat) (V : AV) (V1 : AV) (R : AO) (bad : Bool) (bad1 : Bool) (Q : AV × ASt → Prop) :
  ((M EQ (drawA EQ) (smQ q) 56).call 62 [AV.ptr (some (1, 0)), AV.int IntKind.i64 (Int.ofNat 1)] (vcF140_s0 x V V1 R bad bad1) = some (AV.int IntKind.u64 (Int.ofNat x), vcF140_s1 x V V1 R bad bad1) ∧ ifB (ltF (Int.ofNat 1) (Int.ofNat x)) (Q (AV.bool (eqF (Int.ofNat x) (Int.ofNat 1)), vcF140_s2 x V V1 R bad bad1)) (Q (AV.bool (eqF (Int.ofNat x) (Int.ofNat 1)), vcF140_s1 x V V1 R bad bad1))) =
  (tF140 q x V V1 R bad bad1).allY (fun r => Q (r.1, canS [0, 1] r.2)) (An.v (AV.int IntKind.u64 (Int.ofNat x), vcF140_s1 x V V1 R bad bad1) (An.b An.nil An.nil)) := by kernel_rfl
noncomputable def vcK76_s0 (o : Nat) (c : Cap) (V : AV) (V1 : AV) (R : AO) (d : Nat → Nat) (bad : Bool) (bad1 : Bool) : ASt := mkSt [(0, R), (1, AO.cells [V, AV.bool bad] true), (2, AO.cells zzL true), (3, AO.cells zzL true)] 8
noncomputable def vcK76_s1 (o : Nat) (c : Cap) (V : AV) (V1 : AV) (R : AO) (d : Nat → Nat) (bad : Bool) (bad1 : Bool) : ASt := mkSt [(0, R), (1, AO.cells [V1, AV.bool bad1] true), (2, AO.cells zzL true), (3, AO.cells zzL true)] 10
noncomputable def vcK76_s2 (o : Nat) (c : Cap) (V : AV) (V1 : AV) (R : AO) (d : Nat → Nat) (bad : Bool) (bad1 : Bool) : ASt := mkSt [(0, R), (1, AO.cells [V1, AV.bool bad1] true), (2, AO.cells zzL true), (3, AO.cells (ddL d) true)] 10
noncomputable def vcK76_s3 (o : Nat) (c : Cap) (V : AV) (V1 : AV) (R : AO) (d : Nat → Nat) (bad : Bool) (bad1 : Bool) : ASt := mkSt [(0, R), (1, AO.cells [V1, AV.bool bad1] true)] 10
theorem vcK76 (q : CallT) (o : Nat) (c : Cap) (V : AV) (V1 : AV) (R : AO) (d : Nat → Nat) (bad : Bool) (bad1 : Bool) (Q : AV × ASt → Prop) :
  ((M EQ (drawA EQ) (smQ q) 55).call 94 [AV.ptr (some (1, 0)), AV.int IntKind.i64 (Int.ofNat 256)] (vcK76_s0 o c V V1 R d bad bad1) = some (AV.slice (some (0, o)) 256 c, vcK76_s1 o c V V1 R d bad bad1) ∧ aBuiltinM EQ Builtin.copy [25, 25] [AV.slice (some (3, 0)) 256 (Cap.known 256), AV.slice (some (0, o)) 256 c] (vcK76_s1 o c V V1 R d bad bad1) = some (AV.int IntKind.i64 (Int.ofNat 256), vcK76_s2 o c V V1 R d bad bad1) ∧ holdsO [(some (AV.slice (some (3, 0)) 256 (Cap.known 256)), AV.slice (some (3, 0)) 256 (Cap.known 256))] ∧ Q (AV.agg (ddL d), vcK76_s3 o c V V1 R d bad bad1)) =
  (tK76 q o c V V1 R d bad bad1).allY (fun r => Q (r.1, canS [0, 1] r.2)) (An.v (AV.slice (some (0, o)) 256 c, vcK76_s1 o c V V1 R d bad bad1) (An.v (AV.int IntKind.i64 (Int.ofNat 256), vcK76_s2 o c V V1 R d bad bad1) An.nil)) := by kernel_rfl
noncomputable def vcKb76_s0 (V : AV) (V1 : AV) (R : AO) (bad : Bool) (bad1 : Bool) : ASt := mkSt [(0, R), (1, AO.cells [V, AV.bool bad] true), (2, AO.cells zzL true), (3, AO.cells zzL true)] 8
noncomputable def vcKb76_s1 (V : AV) (V1 : AV) (R : AO) (bad : Bool) (bad1 : Bool) : ASt := mkSt [(0, R), (1, AO.cells [V1, AV.bool bad1] true), (2, AO.cells zzL true), (3, AO.cells zzL true)] 10
noncomputable def vcKb76_s2 (V : AV) (V1 : AV) (R : AO) (bad : Bool) (bad1 : Bool) : ASt := mkSt [(0, R), (1, AO.cells [V1, AV.bool bad1] true)] 10
theorem vcKb76 (q : CallT) (V : AV) (V1 : AV) (R : AO) (bad : Bool) (bad1 : Bool) (Q : AV × ASt → Prop) :
  ((M EQ (drawA EQ) (smQ q) 55).call 94 [AV.ptr (some (1, 0)), AV.int IntKind.i64 (Int.ofNat 256)] (vcKb76_s0 V V1 R bad bad1) = some (AV.slice none 0 (Cap.known 0), vcKb76_s1 V V1 R bad bad1) ∧ holdsO [(some (AV.slice (some (3, 0)) 256 (Cap.known 256)), AV.slice (some (3, 0)) 256 (Cap.known 256))] ∧ Q (AV.agg zzL, vcKb76_s2 V V1 R bad bad1)) =
  (tKb76 q V V1 R bad bad1).allY (fun r => Q (r.1, canS [0, 1] r.2)) (An.v (AV.slice none 0 (Cap.known 0), vcKb76_s1 V V1 R bad bad1) An.nil) := by kernel_rfl
noncomputable def vcK136_s0 (o : Nat) (c : Cap) (V : AV) (V1 : AV) (R : AO) (d : Nat → Nat) (bad : Bool) (bad1 : Bool) : ASt := mkSt [(0, R), (1, AO.cells [V, AV.bool bad, AV.bool true] true), (2, AO.cells zzL true)] 7
noncomputable def vcK136_s1 (o : Nat) (c : Cap) (V : AV) (V1 : AV) (R : AO) (d : Nat → Nat) (bad : Bool) (bad1 : Bool) : ASt := mkSt [(0, R), (1, AO.cells [V1, AV.bool bad1, AV.bool true] true), (2, AO.cells zzL true)] 9
noncomputable def vcK136_s2 (o : Nat) (c : Cap) (V : AV) (V1 : AV) (R : AO) (d : Nat → Nat) (bad : Bool) (bad1 : Bool) : ASt := mkSt [(0, R), (1, AO.cells [V1, AV.bool bad1, AV.bool true] true), (2, AO.cells (ddL d) true)] 9
noncomputable def vcK136_s3 (o : Nat) (c : Cap) (V : AV) (V1 : AV) (R : AO) (d : Nat → Nat) (bad : Bool) (bad1 : Bool) : ASt := mkSt [(0, R), (1, AO.cells [V1, AV.bool bad1, AV.bool true] true)] 9
theorem vcK136 (q : CallT) (o : Nat) (c : Cap) (V : AV) (V1 : AV) (R : AO) (d : Nat → Nat) (bad : Bool) (bad1 : Bool) (Q : AV × ASt → Prop) :
  ((M EQ (drawA EQ) (smQ q) 56).call 93 [AV.ptr (some (1, 0)), AV.int IntKind.i64 (Int.ofNat 256)] (vcK136_s0 o c V V1 R d bad bad1) = some (AV.slice (some (0, o)) 256 c, vcK136_s1 o c V V1 R d bad bad1) ∧ aBuiltinM EQ Builtin.copy [25, 25] [AV.slice (some (2, 0)) 256 (Cap.known 256), AV.slice (some (0, o)) 256 c] (vcK136_s1 o c V V1 R d bad bad1) = some (AV.int IntKind.i64 (Int.ofNat 256), vcK136_s2 o c V V1 R d bad bad1) ∧ holdsO [(some (AV.slice (some (2, 0)) 256 (Cap.known 256)), AV.slice (some (2, 0)) 256 (Cap.known 256))] ∧ Q (AV.agg (ddL d), vcK136_s3 o c V V1 R d bad bad1)) =
  (tK136 q o c V V1 R d bad bad1).allY (fun r => Q (r.1, canS [0, 1] r.2)) (An.v (AV.slice (some (0, o)) 256 c, vcK136_s1 o c V V1 R d bad bad1) (An.v (AV.int IntKind.i64 (Int.ofNat 256), vcK136_s2 o c V V1 R d bad bad1) An.nil)) := by kernel_rfl
noncomputable def vcKb136_s0 (V : AV) (V1 : AV) (R : AO) (bad : Bool) (bad1 : Bool) : ASt := mkSt [(0, R), (1, AO.cells [V, AV.bool bad, AV.bool true] true), (2, AO.cells zzL true)] 7
noncomputable def vcKb136_s1 (V : AV) (V1 : AV) (R : AO) (bad : Bool) (bad1 : Bool) : ASt := mkSt [(0, R), (1, AO.cells [V1, AV.bool bad1, AV.bool true] true), (2, AO.cells zzL true)] 9
noncomputable def vcKb136_s2 (V : AV) (V1 : AV) (R : AO) (bad : Bool) (bad1 : Bool) : ASt := mkSt [(0, R), (1, AO.cells [V1, AV.bool bad1, AV.bool true] true)] 9
theorem vcKb136 (q : CallT) (V : AV) (V1 : AV) (R : AO) (bad : Bool) (bad1 : Bool) (Q : AV × ASt → Prop) :
  ((M EQ (drawA EQ) (smQ q) 56).call 93 [AV.ptr (some (1, 0)), AV.int IntKind.i64 (Int.ofNat 256)] (vcKb136_s0 V V1 R bad bad1) = some (AV.slice none 0 (Cap.known 0), vcKb136_s1 V V1 R bad bad1) ∧ holdsO [(some (AV.slice (some (2, 0)) 256 (Cap.known 256)), AV.slice (some (2, 0)) 256 (Cap.known 256))] ∧ Q (AV.agg zzL, vcKb136_s2 V V1 R bad bad1)) =
  (tKb136 q V V1 R bad bad1).allY (fun r => Q (r.1, canS [0, 1] r.2)) (An.v (AV.slice none 0 (Cap.known 0), vcKb136_s1 V V1 R bad bad1) An.nil) := by kernel_rfl
end Go.Proofs.Ytlnohbilfogheaa.rrq
end

section
open Go Go.Ax Go.Proofs.Ytlnohbilfogheaa Go.Proofs.Ytlnohbilfogheaa.rdr
namespace Go.Proofs.Ytlnohbilfogheaa.rrq
set_option linter.unusedVariables false
theorem EQok : Env.Ok Try.prog EQ := envEx_ok (xs := []) ⟨⟨Try.func94, Try.call94⟩, ⟨Try.func80, Try.call80⟩, ⟨Try.func66, Try.call66⟩, ⟨Try.func67, Try.call67⟩, ⟨Try.func68, Try.call68⟩, ⟨Try.func75, Try.call75⟩, ⟨Try.func76, Try.call76⟩, ⟨Try.func140, Try.call140⟩, ⟨Try.func136, Try.call136⟩, trivial⟩ trivial (by kernel_rfl)
theorem blt_f {a b : Nat} (h : b ≤ a) : Nat.blt a b = false := by
  cases hh : Nat.blt a b
  · rfl
  · have := Nat.le_of_ble_eq_true hh; omega
theorem maxs (c : Nat) : Nat.max c c = c := Nat.max_self c
def vQ (l : List Nat) (o : Nat) : AV := bif Nat.beq o l.length then .slice0 else .slice (some (0, o)) (l.length - o) (.atl (l.length - o))
def wQ (l : List Nat) (o s : Nat) : AV := bif Nat.beq o l.length then .slice0 else .slice (some (0, o)) s (.atl (l.length - o))
def cutQ (l : List Nat) (o : Nat) (bad : Bool) (s : Nat) : AV := bif toB l o bad s then nilV else wQ l o s
def obQ (l : List Nat) : AO := .cells (l.map cellU) false
noncomputable def stK (l : List Nat) (o : Nat) (bad : Bool) : ASt := stP (obQ l) (vQ l o) bad
section
variable {l : List Nat} {o s : Nat} {S : ASt} {bad : Bool}
theorem beq_f {a b : Nat} (h : a ≠ b) : Nat.beq a b = false := by
  cases hh : Nat.beq a b
  · rfl
  · exact absurd (Nat.eq_of_beq_eq_true hh) h
theorem formsQ (ho : o ≤ l.length) : (o = l.length ∧ vQ l o = .slice0 ∧ ∀ s, wQ l o s = .slice0) ∨
    (o < l.length ∧ vQ l o = .slice (some (0, o)) (l.length - o) (.atl (l.length - o)) ∧ ∀ s, wQ l o s = .slice (some (0, o)) s (.atl (l.length - o))) := by
  by_cases e : o = l.length
  · refine .inl ⟨e, ?_, fun s => ?_⟩
    · unfold vQ; rw [e, Nat.beq_refl]; rfl
    · unfold wQ; rw [e, Nat.beq_refl]; rfl
  · refine .inr ⟨by omega, ?_, fun s => ?_⟩
    · unfold vQ; rw [beq_f e]; rfl
    · unfold wQ; rw [beq_f e]; rfl
theorem lenQ (ho : o ≤ l.length) : aBuiltinM EQ .len [25] [vQ l o] S = some (nI (l.length - o), S) := by
  rcases formsQ ho with ⟨rfl, e, _⟩ | ⟨_, e, _⟩
  · rw [e, Nat.sub_self]; kernel_rfl
  · rw [e]; kernel_rfl
theorem cutK (ho : o ≤ l.length) (hs : s ≤ l.length - o) : still S (aSlice EQ 25 (vQ l o) none (some (nI s)) none S) = some (wQ l o s, S) := by
  refine still_of ?_
  rcases formsQ ho with ⟨rfl, e, e2⟩ | ⟨hlt, e, e2⟩
  · have : s = 0 := by omega
    subst this
    rw [e, e2]; show _ = _; kernel_rfl
  · rw [e, e2]
    generalize l.length - o = c at *
    have e3 : aSlice EQ 25 (.slice (some (0, o)) c (.atl c)) none (some (nI s)) none S =
      (match aBounds c (Nat.max c c) none (some s) none with
        | some (a, h, m) => (bif Nat.blt a (Nat.max c c) then some (.slice (some (0, o + a * 1)) (h - a) (.atl (Nat.max c c - a))) else bif Nat.beq a 0 then some (.slice (some (0, o)) 0 (.atl 0)) else some .slice0) | none => none) := by kernel_rfl
    rw [e3, maxs]
    have e4 : aBounds c c none (some s) none = some (0, s, c) := by
      unfold aBounds
      simp only [rdr.ble_t hs, cond_true]
    rw [e4]
    by_cases h0 : 0 < c
    · simp only [blt_t h0, cond_true, Nat.zero_mul, Nat.add_zero, Nat.sub_zero]
    · have : c = 0 := by omega
      subst this
      have : s = 0 := by omega
      subst this
      rfl
theorem restK (ho : o ≤ l.length) (hs : s ≤ l.length - o) : still S (aSlice EQ 25 (vQ l o) (some (nI s)) none none S) = some (vQ l (o + s), S) := by
  refine still_of ?_
  rcases formsQ ho with ⟨rfl, e, e2⟩ | ⟨hlt, e, e2⟩
  · have : s = 0 := by omega
    subst this
    rw [Nat.add_zero, e]; show _ = _; kernel_rfl
  · rw [e]
    have e3 : aSlice EQ 25 (.slice (some (0, o)) (l.length - o) (.atl (l.length - o))) (some (nI s)) none none S =
      (match aBounds (l.length - o) (Nat.max (l.length - o) (l.length - o)) (some s) none none with
        | some (a, h, m) => (bif Nat.blt a (Nat.max (l.length - o) (l.length - o)) then some (.slice (some (0, o + a * 1)) (h - a) (.atl (Nat.max (l.length - o) (l.length - o) - a))) else bif Nat.beq a 0 then some (.slice (some (0, o)) 0 (.atl 0)) else some .slice0) | none => none) := by kernel_rfl
    have e4 : aBounds (l.length - o) (l.length - o) (some s) none none = some (s, l.length - o, l.length - o) := by
      unfold aBounds
      simp only [rdr.ble_t hs, cond_true]
    rw [e3, maxs, e4]
    by_cases hlt2 : s < l.length - o
    · simp only [blt_t hlt2, cond_true, Nat.mul_one]
      unfold vQ
      rw [beq_f (show o + s ≠ l.length by omega), Nat.sub_sub]
      rfl
    · have hb0 : Nat.beq s 0 = false := beq_f (by omega)
      simp only [blt_f (show l.length - o ≤ s by omega), hb0, cond_false]
      unfold vQ
      rw [show o + s = l.length by omega, Nat.beq_refl]
      rfl
theorem storeK {R : AO} {V : AV} (ho : o ≤ l.length) : Option.map (fun s => (undefA, s)) (aStore EQ 25 (.ptr (some (1, 0))) (vQ l o) (mkSt [(0, R), (1, .cells [V, .bool false] true)] 2)) =
    some (.tuple [], mkSt [(0, R), (1, .cells [vQ l o, .bool false] true)] 2) := by
  rcases formsQ ho with ⟨rfl, e, e2⟩ | ⟨hlt, e, e2⟩
  · rw [e]; kernel_rfl
  · rw [e]; kernel_rfl
theorem storeKb {R : AO} {V : AV} : Option.map (fun s => (undefA, s)) (aStore EQ 4 (.ptr (some (1, 1))) (.bool true) (mkSt [(0, R), (1, .cells [V, .bool false] true)] 2)) =
    some (.tuple [], mkSt [(0, R), (1, .cells [V, .bool true] true)] 2) := by kernel_rfl
theorem cutRun (ho : o ≤ l.length) : AtS Try.prog 94 [.ptr (some (1, 0)), nI s] (stK l o bad) (cutQ l o bad s, stK l (toO l o bad s) (toB l o bad s)) := by
  cases bad with
  | true => exact run_of_tm EQok noSum_ok (Eq.mp (vcUb s (vQ l o) (obQ l) (fun v => v = (cutQ l o true s, stK l (toO l o true s) (toB l o true s)))) rfl)
  | false =>
    refine run_of_tm EQok noSum_ok (Eq.mp (vcU (l.length - o) s (vQ l o) (vQ l (o + s)) (wQ l o s) (obQ l) (fun v => v = (cutQ l o false s, stK l (toO l o false s) (toB l o false s)))) ⟨lenQ ho, ifB_mk (fun h => ⟨storeKb, ?_⟩) fun h => ?_⟩)
    · have e : Nat.blt (l.length - o) s = true := by rw [ltF_nn] at h; exact blt_t (of_decide_eq_true h)
      simp only [cutQ, toO, toB, e, cond_true, cond_false]; rfl
    · have hs : s ≤ l.length - o := by
        rw [ltF_nn] at h
        have := of_decide_eq_false h
        omega
      have e : Nat.blt (l.length - o) s = false := blt_f hs
      refine ⟨cutK ho hs, restK ho hs, storeK (by omega), ?_⟩
      simp only [cutQ, toO, toB, e, cond_false]; rfl
theorem ldQ {V : AV} {bb : Bool} {n : Nat} (hok : o + n ≤ l.length) (i : Nat) (hi : i < n) :
    aLoad EQ 5 (.ptr (some (0, o + i))) (stP (obQ l) V bb) = some (.int .u8 (.ofNat (l.getD (o + i) 0)), stP (obQ l) V bb) := by
  have hlt : o + i < l.length := by omega
  refine load_at (cs := l.map cellU) (rw := false) (by kernel_rfl) (by kernel_rfl) ?_
  rw [List.getElem?_map, List.getD_eq_getElem?_getD, List.getElem?_eq_getElem hlt]; rfl
theorem rt0 (hb : l.getD (o + 0) 0 < 256) : wrapF .u64 (Int.ofNat 0 + wrapF .u64 (.ofNat (l.getD (o + 0) 0))) = .ofNat (beN l o 1) := by
  show _ = Int.ofNat (256 * 0 + l.getD (o + 0) 0)
  generalize l.getD (o + 0) 0 = b at hb
  rw [wrapU64' (m := b) (by omega)]
  show wrapF .u64 (Int.ofNat (0 + b)) = _
  rw [wrapU64' (by omega), Nat.mul_zero]
theorem rt1 {k : Nat} (hx : beN l o k < 256 ^ k) (hk : k ≤ 7) (hb : l.getD (o + k) 0 < 256) :
    wrapF .u64 (wrapF .u64 (Int.ofNat 256 * .ofNat (beN l o k)) + wrapF .u64 (.ofNat (l.getD (o + k) 0))) = .ofNat (beN l o (k + 1)) := by
  show _ = Int.ofNat (256 * beN l o k + l.getD (o + k) 0)
  generalize l.getD (o + k) 0 = b at hb
  generalize beN l o k = x at hx
  have hx7 : x < 72057594037927936 := Nat.lt_of_lt_of_le hx (Nat.pow_le_pow_right (by omega) hk)
  have e : (Int.ofNat 256 * Int.ofNat x) = Int.ofNat (256 * x) := rfl
  rw [e, wrapU64' (m := b) (by omega), wrapU64' (by omega)]
  show wrapF .u64 (Int.ofNat (256 * x + b)) = _
  rw [wrapU64' (by omega)]
theorem num1 (ho : o ≤ l.length) (hB : ∀ x, x ∈ l → x < 256) : AtS Try.prog 66 [.ptr (some (1, 0)), nI 1] (stK l o bad) (.int .u64 (.ofNat (numV l o bad 1)), stK l (toO l o bad 1) (toB l o bad 1)) := by
  cases bad with
  | true => exact run_of_tm EQok noSum_ok (Eq.mp (vcWb1 (vQ l o) (obQ l) (fun v => v = (.int .u64 (.ofNat (numV l o true 1)), stK l (toO l o true 1) (toB l o true 1)))) rfl)
  | false =>
    by_cases hk : l.length - o < 1
    · have e : Nat.blt (l.length - o) 1 = true := blt_t hk
      refine run_of_tm EQok noSum_ok (Eq.mp (vcW1 (l.length - o) o 0 0 (vQ l o) (vQ l o) (obQ l) (fun v => v = (.int .u64 (.ofNat (numV l o false 1)), stK l (toO l o false 1) (toB l o false 1)))) ⟨lenQ ho, ifB_mk (fun h => ⟨storeKb, ?_⟩) fun h => ?_⟩)
      · simp only [numV, toO, toB, e, cond_true, cond_false]; rfl
      · rw [ltF_nn] at h
        exact absurd hk (of_decide_eq_false h)
    · have hs : 1 ≤ l.length - o := by omega
      have hok : o + 1 ≤ l.length := by omega
      have e : Nat.blt (l.length - o) 1 = false := blt_f hs
      have hW : wQ l o 1 = .slice (some (0, o)) 1 (.atl (l.length - o)) := by
        rcases formsQ ho with ⟨rfl, _, _⟩ | ⟨_, _, e2⟩
        · omega
        · exact e2 1
      refine run_of_tm EQok noSum_ok (Eq.mp (vcW1 (l.length - o) o (l.length - o) (.ofNat (l.getD (o + 0) 0)) (vQ l o) (vQ l (o + 1)) (obQ l) (fun v => v = (.int .u64 (.ofNat (numV l o false 1)), stK l (toO l o false 1) (toB l o false 1)))) ⟨lenQ ho, ifB_mk (fun h => ?_) fun h => ⟨(cutK ho hs).trans (by rw [hW]), restK ho hs, storeK (by omega), idxK (by kernel_rfl), ldQ hok (0 : Nat) (by omega), ?_⟩⟩)
      · rw [ltF_nn] at h
        exact absurd (of_decide_eq_true h) (by omega)
      · simp only [numV, toO, toB, e, cond_false]
        have hb : ∀ i, l.getD (o + i) 0 < 256 := fun i => getD_lt hB
        rw [rt0 (hb 0)]
        rfl
theorem num2 (ho : o ≤ l.length) (hB : ∀ x, x ∈ l → x < 256) : AtS Try.prog 66 [.ptr (some (1, 0)), nI 2] (stK l o bad) (.int .u64 (.ofNat (numV l o bad 2)), stK l (toO l o bad 2) (toB l o bad 2)) := by
  cases bad with
  | true => exact run_of_tm EQok noSum_ok (Eq.mp (vcWb2 (vQ l o) (obQ l) (fun v => v = (.int .u64 (.ofNat (numV l o true 2)), stK l (toO l o true 2) (toB l o true 2)))) rfl)
  | false =>
    by_cases hk : l.length - o < 2
    · have e : Nat.blt (l.length - o) 2 = true := blt_t hk
      refine run_of_tm EQok noSum_ok (Eq.mp (vcW2 (l.length - o) o 0 0 0 (vQ l o) (vQ l o) (obQ l) (fun v => v = (.int .u64 (.ofNat (numV l o false 2)), stK l (toO l o false 2) (toB l o false 2)))) ⟨lenQ ho, ifB_mk (fun h => ⟨storeKb, ?_⟩) fun h => ?_⟩)
      · simp only [numV, toO, toB, e, cond_true, cond_false]; rfl
      · rw [ltF_nn] at h
        exact absurd hk (of_decide_eq_false h)
    · have hs : 2 ≤ l.length - o := by omega
      have hok : o + 2 ≤ l.length := by omega
      have e : Nat.blt (l.length - o) 2 = false := blt_f hs
      have hW : wQ l o 2 = .slice (some (0, o)) 2 (.atl (l.length - o)) := by
        rcases formsQ ho with ⟨rfl, _, _⟩ | ⟨_, _, e2⟩
        · omega
        · exact e2 2
      refine run_of_tm EQok noSum_ok (Eq.mp (vcW2 (l.length - o) o (l.length - o) (.ofNat (l.getD (o + 0) 0)) (.ofNat (l.getD (o + 1) 0)) (vQ l o) (vQ l (o + 2)) (obQ l) (fun v => v = (.int .u64 (.ofNat (numV l o false 2)), stK l (toO l o false 2) (toB l o false 2)))) ⟨lenQ ho, ifB_mk (fun h => ?_) fun h => ⟨(cutK ho hs).trans (by rw [hW]), restK ho hs, storeK (by omega), idxK (by kernel_rfl), ldQ hok (0 : Nat) (by omega), idxK (by kernel_rfl), ldQ hok (1 : Nat) (by omega), ?_⟩⟩)
      · rw [ltF_nn] at h
        exact absurd (of_decide_eq_true h) (by omega)
      · simp only [numV, toO, toB, e, cond_false]
        have hb : ∀ i, l.getD (o + i) 0 < 256 := fun i => getD_lt hB
        rw [rt0 (hb 0)]
        rw [rt1 (k := 1) (beN_lt hb 1 (by omega)) (by omega) (hb 1)]
        rfl
theorem num8 (ho : o ≤ l.length) (hB : ∀ x, x ∈ l → x < 256) : AtS Try.prog 66 [.ptr (some (1, 0)), nI 8] (stK l o bad) (.int .u64 (.ofNat (numV l o bad 8)), stK l (toO l o bad 8) (toB l o bad 8)) := by
  cases bad with
  | true => exact run_of_tm EQok noSum_ok (Eq.mp (vcWb8 (vQ l o) (obQ l) (fun v => v = (.int .u64 (.ofNat (numV l o true 8)), stK l (toO l o true 8) (toB l o true 8)))) rfl)
  | false =>
    by_cases hk : l.length - o < 8
    · have e : Nat.blt (l.length - o) 8 = true := blt_t hk
      refine run_of_tm EQok noSum_ok (Eq.mp (vcW8 (l.length - o) o 0 0 0 0 0 0 0 0 0 (vQ l o) (vQ l o) (obQ l) (fun v => v = (.int .u64 (.ofNat (numV l o false 8)), stK l (toO l o false 8) (toB l o false 8)))) ⟨lenQ ho, ifB_mk (fun h => ⟨storeKb, ?_⟩) fun h => ?_⟩)
      · simp only [numV, toO, toB, e, cond_true, cond_false]; rfl
      · rw [ltF_nn] at h
        exact absurd hk (of_decide_eq_false h)
    · have hs : 8 ≤ l.length - o := by omega
      have hok : o + 8 ≤ l.length := by omega
      have e : Nat.blt (l.length - o) 8 = false := blt_f hs
      have hW : wQ l o 8 = .slice (some (0, o)) 8 (.atl (l.length - o)) := by
        rcases formsQ ho with ⟨rfl, _, _⟩ | ⟨_, _, e2⟩
        · omega
        · exact e2 8
      refine run_of_tm EQok noSum_ok (Eq.mp (vcW8 (l.length - o) o (l.length - o) (.ofNat (l.getD (o + 0) 0)) (.ofNat (l.getD (o + 1) 0)) (.ofNat (l.getD (o + 2) 0)) (.ofNat (l.getD (o + 3) 0)) (.ofNat (l.getD (o + 4) 0)) (.ofNat (l.getD (o + 5) 0)) (.ofNat (l.getD (o + 6) 0)) (.ofNat (l.getD (o + 7) 0)) (vQ l o) (vQ l (o + 8)) (obQ l) (fun v => v = (.int .u64 (.ofNat (numV l o false 8)), stK l (toO l o false 8) (toB l o false 8)))) ⟨lenQ ho, ifB_mk (fun h => ?_) fun h => ⟨(cutK ho hs).trans (by rw [hW]), restK ho hs, storeK (by omega), idxK (by kernel_rfl), ldQ hok (0 : Nat) (by omega), idxK (by kernel_rfl), ldQ hok (1 : Nat) (by omega), idxK (by kernel_rfl), ldQ hok (2 : Nat) (by omega), idxK (by kernel_rfl), ldQ hok (3 : Nat) (by omega), idxK (by kernel_rfl), ldQ hok (4 : Nat) (by omega), idxK (by kernel_rfl), ldQ hok (5 : Nat) (by omega), idxK (by kernel_rfl), ldQ hok (6 : Nat) (by omega), idxK (by kernel_rfl), ldQ hok (7 : Nat) (by omega), ?_⟩⟩)
      · rw [ltF_nn] at h
        exact absurd (of_decide_eq_true h) (by omega)
      · simp only [numV, toO, toB, e, cond_false]
        have hb : ∀ i, l.getD (o + i) 0 < 256 := fun i => getD_lt hB
        rw [rt0 (hb 0)]
        rw [rt1 (k := 1) (beN_lt hb 1 (by omega)) (by omega) (hb 1)]
        rw [rt1 (k := 2) (beN_lt hb 2 (by omega)) (by omega) (hb 2)]
        rw [rt1 (k := 3) (beN_lt hb 3 (by omega)) (by omega) (hb 3)]
        rw [rt1 (k := 4) (beN_lt hb 4 (by omega)) (by omega) (hb 4)]
        rw [rt1 (k := 5) (beN_lt hb 5 (by omega)) (by omega) (hb 5)]
        rw [rt1 (k := 6) (beN_lt hb 6 (by omega)) (by omega) (hb 6)]
        rw [rt1 (k := 7) (beN_lt hb 7 (by omega)) (by omega) (hb 7)]
        rfl
theorem numV_lt (hB : ∀ x, x ∈ l → x < 256) {k : Nat} (hk : k ≤ 8) : numV l o bad k < 256 ^ k := by
  unfold numV
  cases toB l o bad k
  · exact beN_lt (fun i => getD_lt hB) k hk
  · exact Nat.pow_pos (by decide)
theorem blobQ (ho : o ≤ l.length) (hB : ∀ x, x ∈ l → x < 256) : AtS Try.prog 67 [.ptr (some (1, 0))] (stK l o bad)
    (cutQ l (toO l o bad 2) (toB l o bad 2) (blobN l o bad), stK l (toO l (toO l o bad 2) (toB l o bad 2) (blobN l o bad)) (toB l (toO l o bad 2) (toB l o bad 2) (blobN l o bad))) := by
  obtain ⟨o1, h1⟩ : ∃ x, x = toO l o bad 2 := ⟨_, rfl⟩
  obtain ⟨b1, h2⟩ : ∃ x, x = toB l o bad 2 := ⟨_, rfl⟩
  obtain ⟨n, h3⟩ : ∃ x, x = blobN l o bad := ⟨_, rfl⟩
  have ho1 : o1 ≤ l.length := h1 ▸ toO_le ho
  have hn : n < 65536 := by rw [h3]; exact numV_lt hB (by decide)
  have c1 : Call1 Try.prog 66 [.ptr (some (1, 0)), nI 2] (stK l o bad) (.int .u64 (.ofNat n), stK l o1 b1) := by rw [h1, h2, h3]; exact (num2 ho hB).call1
  have c2 : Call1 Try.prog 94 [.ptr (some (1, 0)), nI n] (stK l o1 b1) (cutQ l o1 b1 n, stK l (toO l o1 b1 n) (toB l o1 b1 n)) := (cutRun ho1).call1
  rw [← h1, ← h2, ← h3]
  refine run_of_tm EQok (onlyC_ok (fs := [94, 66, 62, 93]) (tabC_ok (tab := [(66, [.ptr (some (1, 0)), nI 2], stK l o bad, (.int .u64 (.ofNat n), stK l o1 b1)), (94, [.ptr (some (1, 0)), nI n], stK l o1 b1, (cutQ l o1 b1 n, stK l (toO l o1 b1 n) (toB l o1 b1 n)))]) fun e he => by
      simp only [List.mem_cons, List.not_mem_nil, or_false] at he
      rcases he with rfl | rfl
      · exact c1
      · exact c2))
    (Eq.mp (vcB67 _ n (vQ l o) (vQ l o1) (vQ l (toO l o1 b1 n)) (cutQ l o1 b1 n) (obQ l) bad b1 (toB l o1 b1 n) (fun v => v = (cutQ l o1 b1 n, stK l (toO l o1 b1 n) (toB l o1 b1 n)))) ⟨call_at (onlyC_at rfl (tabC_hd ..)), ?_, rfl⟩)
  have hw : wrapF .i64 (.ofNat n) = .ofNat n := wrap_nat (by omega)
  rw [hw]
  exact call_at (onlyC_at rfl ((tabC_tlf rfl).trans (tabC_hd ..)))
theorem doneQ (ho : o ≤ l.length) : AtS Try.prog 68 [.ptr (some (1, 0))] (stK l o bad) (.bool (!bad && eqF (.ofNat (l.length - o)) (.ofNat 0)), stK l o bad) := by
  cases bad with
  | true => exact run_of_tm EQok noSum_ok (Eq.mp (vcEb68 (vQ l o) (obQ l) (fun v => v = (.bool (!true && eqF (.ofNat (l.length - o)) (.ofNat 0)), stK l o true))) rfl)
  | false => exact run_of_tm EQok noSum_ok (Eq.mp (vcE68 (l.length - o) (vQ l o) (obQ l) (fun v => v = (.bool (!false && eqF (.ofNat (l.length - o)) (.ofNat 0)), stK l o false))) ⟨lenQ ho, rfl⟩)
def flB (l : List Nat) (o : Nat) (bad : Bool) : Bool := toB l o bad 1 || ltF (.ofNat 1) (.ofNat (numV l o bad 1))
def flV (l : List Nat) (o : Nat) (bad : Bool) : Bool := eqF (.ofNat (numV l o bad 1)) (.ofNat 1)
theorem flagQ (ho : o ≤ l.length) (hB : ∀ x, x ∈ l → x < 256) : AtS Try.prog 75 [.ptr (some (1, 0))] (stK l o bad) (.bool (flV l o bad), stK l (toO l o bad 1) (flB l o bad)) := by
  have c1 : Call1 Try.prog 66 [.ptr (some (1, 0)), nI 1] (stK l o bad) (.int .u64 (.ofNat (numV l o bad 1)), stK l (toO l o bad 1) (toB l o bad 1)) := (num1 ho hB).call1
  unfold flB flV
  generalize toB l o bad 1 = b1 at *
  generalize numV l o bad 1 = x at *
  generalize toO l o bad 1 = o1 at *
  have hq := onlyC_ok (fs := [94, 66, 62, 93]) (tabC_ok (P := Try.prog) (tab := [(66, [.ptr (some (1, 0)), nI 1], stK l o bad, (.int .u64 (.ofNat x), stK l o1 b1))]) fun e he => by
      simp only [List.mem_cons, List.not_mem_nil, or_false] at he
      subst he
      exact c1)
  cases b1 with
  | true => exact run_of_tm EQok hq (Eq.mp (vcFb75 _ x (vQ l o) (vQ l o1) (obQ l) bad (fun v => v = (.bool (eqF (.ofNat x) (.ofNat 1)), stK l o1 true))) ⟨call_at (onlyC_at rfl (tabC_hd ..)), rfl⟩)
  | false => exact run_of_tm EQok hq (Eq.mp (vcF75 _ x (vQ l o) (vQ l o1) (obQ l) bad (ltF (.ofNat 1) (.ofNat x)) (fun v => v = (.bool (eqF (.ofNat x) (.ofNat 1)), stK l o1 (false || ltF (.ofNat 1) (.ofNat x))))) ⟨call_at (onlyC_at rfl (tabC_hd ..)), still_of (by kernel_rfl), rfl⟩)
theorem flagW (ho : o ≤ l.length) (hB : ∀ x, x ∈ l → x < 256) : AtS Try.prog 140 [.ptr (some (1, 0))] (stL l o bad) (.bool (flV l o bad), stL l (toO l o bad 1) (flB l o bad)) := by
  have c1 : Call1 Try.prog 62 [.ptr (some (1, 0)), nI 1] (stL l o bad) (.int .u64 (.ofNat (numV l o bad 1)), stL l (toO l o bad 1) (toB l o bad 1)) := (rdr.num1 ho hB).call1
  unfold flB flV
  generalize toB l o bad 1 = b1 at *
  generalize numV l o bad 1 = x at *
  generalize toO l o bad 1 = o1 at *
  have hq := onlyC_ok (fs := [94, 66, 62, 93]) (tabC_ok (P := Try.prog) (tab := [(62, [.ptr (some (1, 0)), nI 1], stL l o bad, (.int .u64 (.ofNat x), stL l o1 b1))]) fun e he => by
      simp only [List.mem_cons, List.not_mem_nil, or_false] at he
      subst he
      exact c1)
  refine run_of_tm EQok hq (Eq.mp (vcF140 _ x (vAt l o) (vAt l o1) (obR l) bad b1 (fun v => v = (.bool (eqF (.ofNat x) (.ofNat 1)), stL l o1 (b1 || ltF (.ofNat 1) (.ofNat x))))) ⟨call_at (onlyC_at rfl (tabC_hd ..)), ifB_mk (fun h => ?_) fun h => ?_⟩)
  · rw [h, Bool.or_true]; rfl
  · rw [h, Bool.or_false]; rfl
end
end Go.Proofs.Ytlnohbilfogheaa.rrq
end

section
open Go Go.Ax Go.Proofs.Ytlnohbilfogheaa Go.Proofs.Ytlnohbilfogheaa.rdr
namespace Go.Proofs.Ytlnohbilfogheaa.rrq
set_option linter.unusedVariables false
def mv (r : Nat) (v : AV) : AV := mapV (fun _ => r) v
theorem mv_eq {g : Nat → Nat} {r : Nat} (hg : g 0 = r) : ∀ {v : AV}, (match v with | .slice (some (i, _)) _ _ => i = 0 | .slice none _ _ | .slice0 | .int _ _ | .bool _ => True | _ => False) → mapV g v = mv r v := by
  intro v h
  unfold mv
  match v, h with
  | .slice (some (i, o)) n c, h => simp only at h; subst h; simp only [mapV, hg]
  | .slice none n c, _ => rfl
  | .slice0, _ => rfl
  | .int _ _, _ => rfl
  | .bool _, _ => rfl
section
variable {l : List Nat} {o s : Nat} {S : ASt} {bad : Bool}
noncomputable def rqIn (r : Nat) (l : List Nat) (o : Nat) (bad : Bool) : AO := rq (mv r (vQ l o)) bad
theorem vQ_form (ho : o ≤ l.length) : (match vQ l o with | .slice (some (i, _)) _ _ => i = 0 | .slice none _ _ | .slice0 | .int _ _ | .bool _ => True | _ => False) := by
  rcases formsQ ho with ⟨rfl, e, _⟩ | ⟨_, e, _⟩ <;> rw [e]
  trivial
theorem cutQ_form (ho : o ≤ l.length) : (match cutQ l o bad s with | .slice (some (i, _)) _ _ => i = 0 | .slice none _ _ | .slice0 | .int _ _ | .bool _ => True | _ => False) := by
  unfold cutQ
  cases toB l o bad s
  · simp only [cond_false]
    rcases formsQ ho with ⟨rfl, _, e⟩ | ⟨_, _, e⟩ <;> rw [e]
    trivial
  · trivial
theorem cutW_form (ho : o ≤ l.length) : (match cutW l o bad s with | .slice (some (i, _)) _ _ => i = 0 | .slice none _ _ | .slice0 | .int _ _ | .bool _ => True | _ => False) := by
  unfold cutW
  cases toB l o bad s
  · simp only [cond_false]
    rcases forms ho with ⟨_, _, _, e⟩ | ⟨_, _, _, e⟩ | ⟨_, _, _, e⟩ <;> rw [e] <;> trivial
  · trivial
noncomputable def stKm (l : List Nat) (o : Nat) (bad : Bool) (m : Nat) : ASt := mkSt [(0, obQ l), (1, rq (vQ l o) bad)] m
noncomputable def stLm (l : List Nat) (o : Nat) (bad : Bool) (m : Nat) : ASt := mkSt [(0, obR l), (1, rd (vAt l o) bad)] m
theorem atRowQ {f i r m : Nat} {ex : List AV} {v v' : AV} {o' : Nat} {bad' : Bool} {rw : Bool} (h0 : l ≠ []) (ho : o ≤ l.length) (ho' : o' ≤ l.length) (hex : ∀ c, c ∈ ex → refsV 0 c)
    (h : AtS Try.prog f (.ptr (some (1, 0)) :: ex) (stK l o bad) (v, stKm l o' bad' m)) (h2 : 2 ≤ m) (hvm : ∀ g : Nat → Nat, g 0 = r → mapV g v = v')
    (hi : S.h.get i = some (rqIn r l o bad)) (hr : S.h.get r = some (.cells (l.map cellU) rw)) (hne : i ≠ r) (his : i < S.next) (hrs : r < S.next) :
    Call1 Try.prog f (.ptr (some (i, 0)) :: ex) S (v', outS (gS [some (r, 0, true), some (i, 0, true)] S.next) [(1, rqIn r l o' bad')] S (S.next + m)) := by
  have hg : ∀ j, (stK l o bad).h.get j = if j = 1 then some (rq (vQ l o) bad) else if j = 0 then some (.cells (l.map cellU) false) else none := fun j => by
    show (((T.e : T AO).set D 0 (.cells (l.map cellU) false)).set D 1 (rq (vQ l o) bad)).get j = _
    rw [T.get_set, T.get_set, T.get_e]
  have hg2 : ∀ {j x}, (stK l o bad).h.get j = some x → (j = 0 ∧ x = .cells (l.map cellU) false) ∨ (j = 1 ∧ x = rq (vQ l o) bad) := fun {j x} hj => by
    rw [hg] at hj
    by_cases e1 : j = 1
    · simp [e1] at hj; exact .inr ⟨e1, hj.symm⟩
    · by_cases e0 : j = 0
      · simp [e0] at hj; exact .inl ⟨e0, hj.symm⟩
      · simp [e1, e0] at hj
  have ren0 : ∀ ι : Ren, renS [some (r, 0, true), some (i, 0, true)] ι 0 = ι r := fun ι => by
    show (match ι r with | some L => some (L.sh 0) | none => none) = ι r
    cases ι r <;> rfl
  refine Call1.frame (S1 := stK l o bad) (args1 := .ptr (some (1, 0)) :: ex) (Q1 := fun q => q = (v, stKm l o' bad' m)) (fun B w0 ι w args' _ hsr hv => h B w0 ι w args' hsr hv) (src := [some (r, 0, true), some (i, 0, true)])
    ⟨rfl, fun j i' o w hj => ?_, fun j x hj => ?_, fun j x hj hd => ?_, fun j j' x i1 o1 w1 o2 w2 hj ho s1 s2 => ?_⟩ (fun ι args' hv => ?_) (fun q hq => ?_)
  · match j, hj with
    | 0, hj => simp at hj; obtain ⟨rfl, rfl, rfl⟩ := hj; exact ⟨fun _ => rfl, _, hr, by simp⟩
    | 1, hj => simp at hj; obtain ⟨rfl, rfl, rfl⟩ := hj; exact ⟨fun _ => rfl, _, hi, by simp [rqIn, rq]⟩
    | j + 2, hj => simp at hj
  · rcases hg2 hj with ⟨rfl, _⟩ | ⟨rfl, _⟩ <;> simp
  · rcases hg2 hj with ⟨rfl, rfl⟩ | ⟨rfl, rfl⟩
    · exact ⟨r, 0, true, _, rfl, hr, by simp, (fun h => by cases h), fun ι L ob hx => row_sub hx (by simpa using h0) (by rw [List.length_map]; exact takeU) (refU l)⟩
    · refine ⟨i, 0, true, _, rfl, hi, by simp [rqIn, rq], fun _ => ⟨rfl, rfl⟩, fun ι L ob ⟨c, e, lo, hi', q1, q2, q3, q4, q5, q6⟩ => ⟨c, e, lo, hi', q1, q2, q3, fun v hv => ?_, fun k y y' hy hy' => ?_, q6⟩⟩
      · simp only [List.mem_cons, List.not_mem_nil, or_false] at hv
        rcases hv with rfl | rfl
        · rcases formsQ ho with ⟨_, e, _⟩ | ⟨_, e, _⟩ <;> rw [e] <;> rfl
        · rfl
      · match k, hy with
        | 0, hy =>
          simp at hy; subst hy
          have h5 := q5 0 _ y' rfl hy'
          rcases formsQ ho with ⟨_, e, _⟩ | ⟨_, e, _⟩
          · rw [e] at h5 ⊢
            have h6 : VR ι .slice0 y' := h5
            exact h6.noRef (by simp [refsV])
          · rw [e] at h5 ⊢
            have h6 : VR ι (.slice (some (r, o)) (l.length - o) (.atl (l.length - o))) y' := h5
            cases h6 with
            | slice _ _ _ c' L _ hL hc hl => exact .slice 0 o _ c' L _ ((ren0 ι).trans hL) hc hl
        | 1, hy => simp at hy; subst hy; exact (q5 1 _ y' rfl hy').noRef (by simp [refsV])
        | k + 2, hy => simp at hy
  · rcases hg2 hj with ⟨rfl, rfl⟩ | ⟨rfl, rfl⟩
    · cases ho
    · simp at s1
      match j', s2 with
      | 0, s2 => simp at s2; exact absurd (s1.1.trans s2.1.symm) hne
      | 1, s2 => rfl
      | j' + 2, s2 => simp at s2
  · refine ⟨hv.size, fun k y y' hy hy' => ?_⟩
    match k, hy with
    | 0, hy =>
      simp at hy; subst hy
      cases hv.at_ 0 _ y' rfl hy' with
      | ptr _ _ L hL => exact .ptr 1 0 L (by simp [renS, hL, Loc.sh])
    | k + 1, hy =>
      have hy2 : ex[k]? = some y := by simpa using hy
      exact (hv.at_ (k + 1) y y' (by simpa using hy) hy').noRef (hex y (List.mem_of_getElem? hy2))
  · subst hq
    have g0 : gS [some (r, 0, true), some (i, 0, true)] S.next 0 = r := rfl
    have g1 : gS [some (r, 0, true), some (i, 0, true)] S.next 1 = i := rfl
    refine ⟨BackV.eq (hvm _ g0), ⟨Nat.le_refl _, by simp; omega⟩, fun p hp => ?_, fun j x hj ho => ?_⟩
    · simp only [List.mem_cons, List.not_mem_nil, or_false] at hp
      subst hp
      refine ⟨by rw [g1]; omega, fun _ => ⟨_, by rw [hg]; simp; rfl, rfl⟩, .inr ⟨rfl, _, (by kernel_rfl : (stKm l o' bad' m).h.get 1 = some (rq (vQ l o') bad')), BackO.cells ?_⟩⟩
      show mapVs _ [vQ l o', .bool bad'] = _
      simp only [mapVs, mv_eq g0 (vQ_form ho')]
      rfl
    · rcases hg2 hj with ⟨rfl, rfl⟩ | ⟨rfl, _⟩
      · cases ho
      · exact ⟨_, List.mem_cons_self .., rfl⟩
theorem atRowW {f i r m : Nat} {ex : List AV} {v v' : AV} {o' : Nat} {bad' : Bool} (h0 : l ≠ []) (ho : o ≤ l.length) (ho' : o' ≤ l.length) (hex : ∀ c, c ∈ ex → refsV 0 c)
    (h : AtS Try.prog f (.ptr (some (1, 0)) :: ex) (stL l o bad) (v, stLm l o' bad' m)) (h2 : 2 ≤ m) (hvm : ∀ g : Nat → Nat, g 0 = r → mapV g v = v')
    (hi : S.h.get i = some (rd (vIn r l o) bad)) (hr : S.h.get r = some (.cells (l.map cellU) true)) (hne : i ≠ r) (his : i < S.next) (hrs : r < S.next) :
    Call1 Try.prog f (.ptr (some (i, 0)) :: ex) S (v', outS (gS [some (r, 0, true), some (i, 0, true)] S.next) [(0, .cells (l.map cellU) true), (1, rd (vIn r l o') bad')] S (S.next + m)) := by
  have hg : ∀ j, (stL l o bad).h.get j = if j = 1 then some (rd (vAt l o) bad) else if j = 0 then some (.cells (l.map cellU) true) else none := fun j => by
    show (((T.e : T AO).set D 0 (obR l)).set D 1 (rd (vAt l o) bad)).get j = _
    rw [T.get_set, T.get_set, T.get_e, obR_row h0]
  have hg2 : ∀ {j x}, (stL l o bad).h.get j = some x → (j = 0 ∧ x = .cells (l.map cellU) true) ∨ (j = 1 ∧ x = rd (vAt l o) bad) := fun {j x} hj => by
    rw [hg] at hj
    by_cases e1 : j = 1
    · simp [e1] at hj; exact .inr ⟨e1, hj.symm⟩
    · by_cases e0 : j = 0
      · simp [e0] at hj; exact .inl ⟨e0, hj.symm⟩
      · simp [e1, e0] at hj
  have ren0 : ∀ ι : Ren, renS [some (r, 0, true), some (i, 0, true)] ι 0 = ι r := fun ι => by
    show (match ι r with | some L => some (L.sh 0) | none => none) = ι r
    cases ι r <;> rfl
  refine Call1.frame (S1 := stL l o bad) (args1 := .ptr (some (1, 0)) :: ex) (Q1 := fun q => q = (v, stLm l o' bad' m)) (fun B w0 ι w args' _ hsr hv => h B w0 ι w args' hsr hv) (src := [some (r, 0, true), some (i, 0, true)])
    ⟨rfl, fun j i' o w hj => ?_, fun j x hj => ?_, fun j x hj hd => ?_, fun j j' x i1 o1 w1 o2 w2 hj ho s1 s2 => ?_⟩ (fun ι args' hv => ?_) (fun q hq => ?_)
  · match j, hj with
    | 0, hj => simp at hj; obtain ⟨rfl, rfl, rfl⟩ := hj; exact ⟨fun _ => rfl, _, hr, by simp⟩
    | 1, hj => simp at hj; obtain ⟨rfl, rfl, rfl⟩ := hj; exact ⟨fun _ => rfl, _, hi, by simp [rd]⟩
    | j + 2, hj => simp at hj
  · rcases hg2 hj with ⟨rfl, _⟩ | ⟨rfl, _⟩ <;> simp
  · rcases hg2 hj with ⟨rfl, rfl⟩ | ⟨rfl, rfl⟩
    · exact ⟨r, 0, true, _, rfl, hr, by simp, fun _ => ⟨rfl, rfl⟩, fun ι L ob ⟨c, e, lo, hi', q1, q2, q3, q4, q5, q6⟩ => ⟨c, e, lo, hi', q1, q2, q3, q4, fun k y y' hy hy' => (q5 k y y' hy hy').noRef (refU l y (List.mem_of_getElem? hy)), q6⟩⟩
    · exact ⟨i, 0, true, _, rfl, hi, by simp [rd], fun _ => ⟨rfl, rfl⟩, fun ι L ob hx => rd_back ho (fun _ => ren0 ι) hx⟩
  · rcases hg2 hj with ⟨rfl, rfl⟩ | ⟨rfl, rfl⟩
    · simp at s1
      match j', s2 with
      | 0, s2 => rfl
      | 1, s2 => simp at s2; exact absurd (s2.1.trans s1.1.symm) hne
      | j' + 2, s2 => simp at s2
    · simp at s1
      match j', s2 with
      | 0, s2 => simp at s2; exact absurd (s1.1.trans s2.1.symm) hne
      | 1, s2 => rfl
      | j' + 2, s2 => simp at s2
  · refine ⟨hv.size, fun k y y' hy hy' => ?_⟩
    match k, hy with
    | 0, hy =>
      simp at hy; subst hy
      cases hv.at_ 0 _ y' rfl hy' with
      | ptr _ _ L hL => exact .ptr 1 0 L (by simp [renS, hL, Loc.sh])
    | k + 1, hy =>
      have hy2 : ex[k]? = some y := by simpa using hy
      exact (hv.at_ (k + 1) y y' (by simpa using hy) hy').noRef (hex y (List.mem_of_getElem? hy2))
  · subst hq
    have g0 : gS [some (r, 0, true), some (i, 0, true)] S.next 0 = r := rfl
    have g1 : gS [some (r, 0, true), some (i, 0, true)] S.next 1 = i := rfl
    refine ⟨BackV.eq (hvm _ g0), ⟨Nat.le_refl _, by simp; omega⟩, fun p hp => ?_, fun j x hj ho => ?_⟩
    · simp only [List.mem_cons, List.not_mem_nil, or_false] at hp
      rcases hp with rfl | rfl
      · refine ⟨by rw [g0]; omega, fun _ => ⟨_, by rw [hg]; simp; rfl, rfl⟩, .inr ⟨rfl, _, (?_ : (stLm l o' bad' m).h.get 0 = some (.cells (l.map cellU) true)), BackO.row (refU l)⟩⟩
        rw [← obR_row h0]; kernel_rfl
      · refine ⟨by rw [g1]; omega, fun _ => ⟨_, by rw [hg]; simp; rfl, rfl⟩, .inr ⟨rfl, _, (by kernel_rfl : (stLm l o' bad' m).h.get 1 = some (rd (vAt l o') bad')), BackO.cells ?_⟩⟩
        simp only [mapVs, vIn_eq (fun _ => g0) ho']
        rfl
    · rcases hg2 hj with ⟨rfl, _⟩ | ⟨rfl, _⟩
      · exact ⟨_, List.mem_cons_self .., rfl⟩
      · exact ⟨_, List.mem_cons_of_mem _ (List.mem_cons_self ..), rfl⟩
theorem to1 {P : Program} {f : Nat} {args : List AV} {S R R' : ASt} {v v' : AV} (h : Call1 P f args S (v, R)) (hv : v = v') (hr : R = R') : Call1 P f args S (v', R') := by
  subst hv; subst hr; exact h
theorem mv0W (ho : o ≤ l.length) : mv 0 (cutW l o bad s) = cutW l o bad s := by
  unfold cutW
  cases toB l o bad s
  · simp only [cond_false]
    rcases forms ho with ⟨_, _, _, e⟩ | ⟨_, _, _, e⟩ | ⟨_, _, _, e⟩ <;> rw [e] <;> rfl
  · rfl
theorem mv0Q (ho : o ≤ l.length) : mv 0 (cutQ l o bad s) = cutQ l o bad s := by
  unfold cutQ
  cases toB l o bad s
  · simp only [cond_false]
    rcases formsQ ho with ⟨_, _, e⟩ | ⟨_, _, e⟩ <;> rw [e] <;> rfl
  · rfl
theorem mv0v (ho : o ≤ l.length) : mv 0 (vQ l o) = vQ l o := by
  rcases formsQ ho with ⟨_, e, _⟩ | ⟨_, e, _⟩ <;> rw [e] <;> rfl
theorem vIn0 (ho : o ≤ l.length) : vIn 0 l o = vAt l o := by
  rcases forms2 0 ho with ⟨_, _, e, e2⟩ | ⟨_, _, e, e2⟩ | ⟨_, _, e, e2⟩ <;> rw [e, e2]
theorem refI (s : Nat) : ∀ c, c ∈ [nI s] → refsV 0 c := fun c hc => by
  simp only [List.mem_cons, List.not_mem_nil, or_false] at hc
  subst hc; simp [nI, refsV]
theorem refN : ∀ c, c ∈ ([] : List AV) → refsV 0 c := fun c hc => by cases hc
theorem cpm {S : ASt} {m sl : Nat} {x : AV} (hx : aLen x = some sl) : aBuiltinM EQ .copy [25, 25] [.slice (some (m, 0)) 256 (.known 256), x] S =
    (match aFirst S 1 (Nat.min sl 256) x with
      | none => none
      | some new => match new with
        | [] => some (.int .i64 (.ofNat (Nat.min sl 256)), S)
        | _ => match S.h.get m with
          | some (.cells cs true) => (match setL cs 0 new with | some cs' => some (.int .i64 (.ofNat (Nat.min sl 256)), S.put m (.cells cs' true)) | none => none)
          | _ => none) := by
  obtain ⟨ti, h1⟩ : ∃ ti, EQ.ty.get 25 = some ti := Option.isSome_iff_exists.mp (by kernel_rfl)
  have h2 : ti.desc = .slice 5 := by
    have : (EQ.ty.get 25).map (·.desc) = some (.slice 5) := by kernel_rfl
    rw [h1] at this; simpa using this
  obtain ⟨ei, h3⟩ : ∃ ei, EQ.ty.get 5 = some ei := Option.isSome_iff_exists.mp (by kernel_rfl)
  have h4 : ei.size = 1 := by
    have : (EQ.ty.get 5).map (·.size) = some 1 := by kernel_rfl
    rw [h3] at this; simpa using this
  have e0 : aBuiltinM EQ .copy [25, 25] [.slice (some (m, 0)) 256 (.known 256), x] S = aCopy EQ 25 (.slice (some (m, 0)) 256 (.known 256)) x S := by kernel_rfl
  rw [e0]
  unfold aCopy
  simp only [h1, h2, h3, h4, hx]
  rfl
theorem ddL_map (d : Nat → Nat) : ddL d = ((List.range 256).map d).map cellU := by kernel_rfl
theorem ddL_len (d : Nat → Nat) : (ddL d).length = 256 := by rw [ddL_map]; simp
theorem zz_len : zzL.length = 256 := by kernel_rfl
theorem blk_take (hok : o + 256 ≤ l.length) : ((l.map cellU).drop o).take 256 = ddL fun i => l.getD (o + i) 0 := by
  rw [ddL_map]
  apply List.ext_getElem?
  intro j
  by_cases h : j < 256
  · rw [List.getElem?_take, if_pos h, List.getElem?_drop, List.getElem?_map, List.getElem?_map, List.getElem?_map, List.getElem?_range h, List.getElem?_eq_getElem (by omega : o + j < l.length)]
    simp [List.getD_eq_getElem?_getD, List.getElem?_eq_getElem (by omega : o + j < l.length)]
  · rw [List.getElem?_eq_none (by simp; omega), List.getElem?_eq_none (by simp; omega)]
theorem cp_at {m : Nat} {c : Cap} {rw : Bool} (hok : o + 256 ≤ l.length) (h0 : S.h.get 0 = some (.cells (l.map cellU) rw)) (hm : S.h.get m = some (.cells zzL true)) :
    aBuiltinM EQ .copy [25, 25] [.slice (some (m, 0)) 256 (.known 256), .slice (some (0, o)) 256 c] S = some (nI 256, S.put m (.cells (ddL fun i => l.getD (o + i) 0) true)) := by
  have ht : takeL (l.map cellU) o (256 * 1) = some (ddL fun i => l.getD (o + i) 0) := by
    unfold takeL
    rw [Nat.mul_one, blk_take hok]
    show (bif Nat.beq (ddL fun i => l.getD (o + i) 0).length 256 then _ else _) = _
    rw [ddL_len]
    rfl
  have hf : aFirst S 1 (Nat.min 256 256) (.slice (some (0, o)) 256 c) = some (ddL fun i => l.getD (o + i) 0) := by
    show aFirst S 1 256 _ = _
    simp only [aFirst, h0, ht]
  have hs : setL zzL 0 (ddL fun i => l.getD (o + i) 0) = some (ddL fun i => l.getD (o + i) 0) := by
    have := setL_mid (A := []) (B := zzL) (C := []) (N := ddL fun i => l.getD (o + i) 0) (by rw [zz_len, ddL_len])
    simpa using this
  rw [cpm (sl := 256) (by kernel_rfl), hf]
  have hne : (ddL fun i => l.getD (o + i) 0) ≠ [] := fun g => by
    have := congrArg List.length g
    rw [ddL_len] at this
    cases this
  revert hs hne
  generalize (ddL fun i => l.getD (o + i) 0) = w
  intro hs hne
  cases w with
  | nil => exact absurd rfl hne
  | cons a w => simp only [hm, hs]; rfl
def blkV (l : List Nat) (o : Nat) (bad : Bool) (i : Nat) : Nat := bif toB l o bad 256 then 0 else l.getD (o + i) 0
theorem blk_bad (h : toB l o bad 256 = true) : AV.agg (ddL (blkV l o bad)) = .agg zzL := by
  have e : blkV l o bad = fun _ => 0 := by funext i; unfold blkV; rw [h]; rfl
  rw [e]; show _ = _; kernel_rfl
theorem blk_good (h : toB l o bad 256 = false) : blkV l o bad = fun i => l.getD (o + i) 0 := by
  funext i; unfold blkV; rw [h]; rfl
theorem toB_inv (h : toB l o bad s = false) : bad = false ∧ s ≤ l.length - o := by
  unfold toB at h
  cases bad with
  | true => cases h
  | false =>
    refine ⟨rfl, ?_⟩
    simp only [cond_false] at h
    by_cases g : l.length - o < s
    · rw [blt_t g] at h; cases h
    · omega
theorem blockW (h0 : l ≠ []) (ho : o ≤ l.length) : AtS Try.prog 136 [.ptr (some (1, 0))] (stL l o bad) (.agg (ddL (blkV l o bad)), stLm l (toO l o bad 256) (toB l o bad 256) 9) := by
  obtain ⟨o1, h1⟩ : ∃ x, x = toO l o bad 256 := ⟨_, rfl⟩
  obtain ⟨b1, h2⟩ : ∃ x, x = toB l o bad 256 := ⟨_, rfl⟩
  have ho1 : o1 ≤ l.length := h1 ▸ toO_le ho
  have c : Call1 Try.prog 93 [.ptr (some (1, 0)), nI 256] (mkSt [(0, obR l), (1, rd (vAt l o) bad), (2, .cells zzL true)] 7) (cutW l o bad 256, mkSt [(0, obR l), (1, rd (vAt l o1) b1), (2, .cells zzL true)] 9) := by
    rw [h1, h2]
    refine to1 (atRowW (m := 2) (i := 1) (r := 0) (S := mkSt [(0, obR l), (1, rd (vAt l o) bad), (2, .cells zzL true)] 7) h0 ho (toO_le ho) (refI 256) (rdr.cutRun ho) (Nat.le_refl 2) (fun g hg => mv_eq hg (cutW_form ho)) (by rw [vIn0 ho]; kernel_rfl) (by rw [obR_row h0]; kernel_rfl) (by decide) (by show 1 < 7; decide) (by show 0 < 7; decide)) (mv0W ho) ?_
    rw [vIn0 (toO_le ho), obR_row h0]
    kernel_rfl
  rw [← h1, ← h2]
  have hq := onlyC_ok (fs := [94, 66, 62, 93]) (tabC_ok (P := Try.prog) (tab := [(93, [.ptr (some (1, 0)), nI 256], mkSt [(0, obR l), (1, rd (vAt l o) bad), (2, .cells zzL true)] 7, (cutW l o bad 256, mkSt [(0, obR l), (1, rd (vAt l o1) b1), (2, .cells zzL true)] 9))]) fun e he => by
      simp only [List.mem_cons, List.not_mem_nil, or_false] at he
      subst he
      exact c)
  cases hb : toB l o bad 256 with
  | true =>
    have hw : cutW l o bad 256 = .slice none 0 (.known 0) := by unfold cutW; rw [hb]; rfl
    rw [hw] at hq
    rw [blk_bad hb]
    exact run_of_tm EQok hq (Eq.mp (vcKb136 _ (vAt l o) (vAt l o1) (obR l) bad b1 (fun v => v = (.agg zzL, stLm l o1 b1 9))) ⟨call_at (onlyC_at rfl (tabC_hd ..)), ⟨⟨rfl, rfl⟩, trivial⟩, rfl⟩)
  | false =>
    obtain ⟨_, hs⟩ := toB_inv hb
    have hok : o + 256 ≤ l.length := by omega
    have hw : cutW l o bad 256 = .slice (some (0, o)) 256 (.known 256) := by
      unfold cutW; rw [hb]
      rcases forms ho with ⟨e, _, _, _⟩ | ⟨_, e, _, _⟩ | ⟨_, _, _, e⟩
      · exact absurd e h0
      · omega
      · exact e 256
    rw [hw] at hq
    rw [blk_good hb]
    exact run_of_tm EQok hq (Eq.mp (vcK136 _ o (.known 256) (vAt l o) (vAt l o1) (obR l) (fun i => l.getD (o + i) 0) bad b1 (fun v => v = (.agg (ddL fun i => l.getD (o + i) 0), stLm l o1 b1 9))) ⟨call_at (onlyC_at rfl (tabC_hd ..)), (cp_at (rw := true) hok (by rw [obR_row h0]; kernel_rfl) (by kernel_rfl)).trans (by kernel_rfl), ⟨⟨rfl, rfl⟩, trivial⟩, rfl⟩)
theorem blockQ (h0 : l ≠ []) (ho : o ≤ l.length) : AtS Try.prog 76 [.ptr (some (1, 0))] (stK l o bad) (.agg (ddL (blkV l o bad)), stKm l (toO l o bad 256) (toB l o bad 256) 10) := by
  obtain ⟨o1, h1⟩ : ∃ x, x = toO l o bad 256 := ⟨_, rfl⟩
  obtain ⟨b1, h2⟩ : ∃ x, x = toB l o bad 256 := ⟨_, rfl⟩
  have ho1 : o1 ≤ l.length := h1 ▸ toO_le ho
  have c : Call1 Try.prog 94 [.ptr (some (1, 0)), nI 256] (mkSt [(0, obQ l), (1, rq (vQ l o) bad), (2, .cells zzL true), (3, .cells zzL true)] 8) (cutQ l o bad 256, mkSt [(0, obQ l), (1, rq (vQ l o1) b1), (2, .cells zzL true), (3, .cells zzL true)] 10) := by
    rw [h1, h2]
    refine to1 (atRowQ (m := 2) (i := 1) (r := 0) (rw := false) (S := mkSt [(0, obQ l), (1, rq (vQ l o) bad), (2, .cells zzL true), (3, .cells zzL true)] 8) h0 ho (toO_le ho) (refI 256) (rrq.cutRun ho) (Nat.le_refl 2) (fun g hg => mv_eq hg (cutQ_form ho)) (by unfold rqIn; rw [mv0v ho]; kernel_rfl) (by kernel_rfl) (by decide) (by show 1 < 8; decide) (by show 0 < 8; decide)) (mv0Q ho) ?_
    unfold rqIn
    rw [mv0v (toO_le ho)]
    kernel_rfl
  rw [← h1, ← h2]
  have hq := onlyC_ok (fs := [94, 66, 62, 93]) (tabC_ok (P := Try.prog) (tab := [(94, [.ptr (some (1, 0)), nI 256], mkSt [(0, obQ l), (1, rq (vQ l o) bad), (2, .cells zzL true), (3, .cells zzL true)] 8, (cutQ l o bad 256, mkSt [(0, obQ l), (1, rq (vQ l o1) b1), (2, .cells zzL true), (3, .cells zzL true)] 10))]) fun e he => by
      simp only [List.mem_cons, List.not_mem_nil, or_false] at he
      subst he
      exact c)
  cases hb : toB l o bad 256 with
  | true =>
    have hw : cutQ l o bad 256 = .slice none 0 (.known 0) := by unfold cutQ; rw [hb]; rfl
    rw [hw] at hq
    rw [blk_bad hb]
    exact run_of_tm EQok hq (Eq.mp (vcKb76 _ (vQ l o) (vQ l o1) (obQ l) bad b1 (fun v => v = (.agg zzL, stKm l o1 b1 10))) ⟨call_at (onlyC_at rfl (tabC_hd ..)), ⟨⟨rfl, rfl⟩, trivial⟩, rfl⟩)
  | false =>
    obtain ⟨_, hs⟩ := toB_inv hb
    have hok : o + 256 ≤ l.length := by omega
    have hw : cutQ l o bad 256 = .slice (some (0, o)) 256 (.atl (l.length - o)) := by
      unfold cutQ; rw [hb]
      rcases formsQ ho with ⟨e, _, _⟩ | ⟨_, _, e⟩
      · omega
      · exact e 256
    rw [hw] at hq
    rw [blk_good hb]
    exact run_of_tm EQok hq (Eq.mp (vcK76 _ o (.atl (l.length - o)) (vQ l o) (vQ l o1) (obQ l) (fun i => l.getD (o + i) 0) bad b1 (fun v => v = (.agg (ddL fun i => l.getD (o + i) 0), stKm l o1 b1 10))) ⟨call_at (onlyC_at rfl (tabC_hd ..)), (cp_at (rw := false) hok (by kernel_rfl) (by kernel_rfl)).trans (by kernel_rfl), ⟨⟨rfl, rfl⟩, trivial⟩, rfl⟩)
end
end Go.Proofs.Ytlnohbilfogheaa.rrq
end
