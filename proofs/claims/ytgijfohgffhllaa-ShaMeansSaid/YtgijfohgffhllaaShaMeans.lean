/-
  PROVED HERE: 'Rows.ShaMeansSaid': for every two rows of bytes and every number the call of the law's function returns true, and the rows read as they did. No condition.
  THE WALK is a run of the function's text in an abstract machine (the texts YtgijfohgffhllaaAxA to YtgijfohgffhllaaAxFm show that it is sound), with the rows open: the text in two pieces, each by one reckoning of the kernel ('vc..'); the hash by a contract of its own (the text YtgijfohgffhllaaSumH), used where it is called.
-/
import Derived.Test.YtgijfohgffhllaaRows
import Derived.Test.YtgijfohgffhllaaAxFm
import Derived.Test.YtgijfohgffhllaaSumH
import Derived.KernelRfl
import Derived.WalkKit
import Derived.ProofKit
import Derived.OpenShut
import Derived.ShutString
import Derived.ChangeOld
import Derived.ChangeSlices
import Derived.Below
import Derived.Deep.SlicePairs
import Derived.Deep.Grids
import Derived.WideKeyArgs
open Go Go.Ax Go.Proofs.Ytgijfohgffhllaa
namespace Go.Proofs.Ytgijfohgffhllaa.shm
set_option linter.unusedVariables false
noncomputable def fns : List (Nat × Func) := [(6, Try.f6), (9, Try.f9), (10, Try.f10), (11, Try.f11), (12, Try.f12)]
noncomputable def E : Env := envEx Try.prog (List.range 65) fns []
def fl0 : Fl := ⟨[], [], [], []⟩
noncomputable def sumHash : CallT := orC (sumSumZ 7) (sumSum0 7 sumPart.emptyV)
noncomputable def sm : CallT := orC (sumC [⟨9, [], .bool true⟩]) sumHash
def fstO (x : Option (AV × ASt)) : Option AV := match x with | some (v, _) => some v | none => none
def xl (xs : Nat → Int) : List Int := [xs 0, xs 1, xs 2, xs 3, xs 4, xs 5, xs 6, xs 7, xs 8, xs 9, xs 10, xs 11, xs 12, xs 13, xs 14, xs 15, xs 16, xs 17, xs 18, xs 19, xs 20, xs 21, xs 22, xs 23, xs 24, xs 25, xs 26, xs 27, xs 28, xs 29, xs 30, xs 31]
def cl (xs : Nat → Int) : List AV := [.int .u8 (xs 0), .int .u8 (xs 1), .int .u8 (xs 2), .int .u8 (xs 3), .int .u8 (xs 4), .int .u8 (xs 5), .int .u8 (xs 6), .int .u8 (xs 7), .int .u8 (xs 8), .int .u8 (xs 9), .int .u8 (xs 10), .int .u8 (xs 11), .int .u8 (xs 12), .int .u8 (xs 13), .int .u8 (xs 14), .int .u8 (xs 15), .int .u8 (xs 16), .int .u8 (xs 17), .int .u8 (xs 18), .int .u8 (xs 19), .int .u8 (xs 20), .int .u8 (xs 21), .int .u8 (xs 22), .int .u8 (xs 23), .int .u8 (xs 24), .int .u8 (xs 25), .int .u8 (xs 26), .int .u8 (xs 27), .int .u8 (xs 28), .int .u8 (xs 29), .int .u8 (xs 30), .int .u8 (xs 31)]
def hv (xs : Nat → Int) : AV := .agg (cl xs)

noncomputable def c6 : Code := Option.getD Try.f6.body .skip
noncomputable def F0 (vl vm : AV) (at_ : Int) : AFr := { m := putArgs [vl, vm, .int .i64 at_] 0 .e, n := 84, defs := [] }
noncomputable def frP (vl vm : AV) (at_ : Int) : AFr := xFr [(0, vl), (1, vm), (2, .int .i64 at_)] 84
noncomputable def stW (o0 o1 : AO) : ASt := mkSt [(0, o0), (1, o1)] 2
def flA : Fl := ⟨[13, 17, 21, 23, 25, 27, 30, 32, 33, 37, 43, 57], [46, 48], [14, 18, 27, 33, 37, 43, 49, 53, 58], []⟩
def fls : List (Nat × Fl) := [(12, ⟨[8], [], [], []⟩)]
noncomputable def tA (vl vm : AV) (o0 o1 : AO) (n m : Nat) (at_ : Int) (xs ys : Nat → Int) (a b : List Nat) (eab exy : Bool) : Tr (Exit × AFr × ASt) := (TM E sm fls fl0 40).ex flA none (preC 5 c6) (F0 vl vm at_) (stW o0 o1)
def flB : Fl := ⟨[57, 62, 63, 65, 68, 69, 72, 73, 74, 78, 79, 81, 82], [], [53, 58, 74, 82], []⟩
noncomputable def tB (vl vm : AV) (o0 o1 : AO) (n k : Nat) (w v3 v5 u1 u2 u3 : AV) (zs : Nat → Int) (ca cb : List AV) (b : List Nat) : Tr (Exit × AFr × ASt) := (TM E sm [] fl0 40).ex flB none (dropC 5 c6) (xFr [(0, vl), (1, vm), (2, .int .i64 (.ofNat k))] 84) (stW o0 o1)
noncomputable def tN (vl vm : AV) (o0 o1 : AO) (k : Nat) : Tr (Exit × AFr × ASt) := (TM E sm [] fl0 40).ex flB none (dropC 5 c6) (xFr [(0, vl), (1, vm), (2, .int .i64 (.negSucc k))] 84) (stW o0 o1)
noncomputable def vcA_s0 (vl : AV) (vm : AV) (o0 : AO) (o1 : AO) (n : Nat) (m : Nat) (at_ : Int) (xs : Nat → Int) (ys : Nat → Int) (a : List Nat) (b : List Nat) (eab : Bool) (exy : Bool) : ASt := mkSt [(0, o0), (1, o1)] 2
noncomputable def vcA_s1 (vl : AV) (vm : AV) (o0 : AO) (o1 : AO) (n : Nat) (m : Nat) (at_ : Int) (xs : Nat → Int) (ys : Nat → Int) (a : List Nat) (b : List Nat) (eab : Bool) (exy : Bool) : ASt := mkSt [(0, o0), (1, o1), (2, AO.cells (cl xs) true)] 3
noncomputable def vcA_s2 (vl : AV) (vm : AV) (o0 : AO) (o1 : AO) (n : Nat) (m : Nat) (at_ : Int) (xs : Nat → Int) (ys : Nat → Int) (a : List Nat) (b : List Nat) (eab : Bool) (exy : Bool) : ASt := mkSt [(0, o0), (1, o1), (2, AO.cells (cl xs) true), (3, AO.cells (cl ys) true)] 32
noncomputable def vcA_s3 (vl : AV) (vm : AV) (o0 : AO) (o1 : AO) (n : Nat) (m : Nat) (at_ : Int) (xs : Nat → Int) (ys : Nat → Int) (a : List Nat) (b : List Nat) (eab : Bool) (exy : Bool) : ASt := mkSt [(0, o0), (1, o1), (2, AO.cells (cl xs) true), (3, AO.cells (cl ys) true), (32, AO.cells (cl xs) true)] 33
noncomputable def vcA_s4 (vl : AV) (vm : AV) (o0 : AO) (o1 : AO) (n : Nat) (m : Nat) (at_ : Int) (xs : Nat → Int) (ys : Nat → Int) (a : List Nat) (b : List Nat) (eab : Bool) (exy : Bool) : ASt := mkSt [(0, o0), (1, o1), (2, AO.cells (cl xs) true), (3, AO.cells (cl ys) true)] 34
theorem vcA (vl : AV) (vm : AV) (o0 : AO) (o1 : AO) (n : Nat) (m : Nat) (at_ : Int) (xs : Nat → Int) (ys : Nat → Int) (a : List Nat) (b : List Nat) (eab : Bool) (exy : Bool) (Q : Exit × AFr × ASt → Prop) (Q2 : Exit × Option AV → Prop) :
  (aBuiltinM E Builtin.len [22] [vl] (vcA_s0 vl vm o0 o1 n m at_ xs ys a b eab exy) = some (AV.int IntKind.i64 (Int.ofNat n), vcA_s0 vl vm o0 o1 n m at_ xs ys a b eab exy) ∧ ifB (ltF (Int.ofNat 3000) (Int.ofNat n)) (Q2 (Exit.ret, some (AV.bool true))) (aBuiltinM E Builtin.len [22] [vm] (vcA_s0 vl vm o0 o1 n m at_ xs ys a b eab exy) = some (AV.int IntKind.i64 (Int.ofNat m), vcA_s0 vl vm o0 o1 n m at_ xs ys a b eab exy) ∧ ifB (ltF (Int.ofNat 3000) (Int.ofNat m)) (Q2 (Exit.ret, some (AV.bool true))) ((M E (drawA E) sm 35).call 7 [vl] (vcA_s0 vl vm o0 o1 n m at_ xs ys a b eab exy) = some (AV.agg (cl xs), vcA_s0 vl vm o0 o1 n m at_ xs ys a b eab exy) ∧ (M E (drawA E) sm 34).call 7 [vm] (vcA_s1 vl vm o0 o1 n m at_ xs ys a b eab exy) = some (AV.agg (cl ys), vcA_s1 vl vm o0 o1 n m at_ xs ys a b eab exy) ∧ (M E (drawA E) sm 33).call 7 [vl] (vcA_s2 vl vm o0 o1 n m at_ xs ys a b eab exy) = some (AV.agg (cl xs), vcA_s2 vl vm o0 o1 n m at_ xs ys a b eab exy) ∧ still (vcA_s2 vl vm o0 o1 n m at_ xs ys a b eab exy) (aBin E BinOp.neq 23 (Operand.tmp 25) (Operand.tmp 26) (AV.agg (cl xs)) (AV.agg (cl xs))) = some (AV.bool false, vcA_s2 vl vm o0 o1 n m at_ xs ys a b eab exy) ∧ aConvert E 22 9 vl (vcA_s2 vl vm o0 o1 n m at_ xs ys a b eab exy) = some (AV.str a, vcA_s2 vl vm o0 o1 n m at_ xs ys a b eab exy) ∧ aConvert E 22 9 vm (vcA_s2 vl vm o0 o1 n m at_ xs ys a b eab exy) = some (AV.str b, vcA_s2 vl vm o0 o1 n m at_ xs ys a b eab exy) ∧ still (vcA_s2 vl vm o0 o1 n m at_ xs ys a b eab exy) (aBin E BinOp.eql 9 (Operand.tmp 30) (Operand.tmp 32) (AV.str a) (AV.str b)) = some (AV.bool eab, vcA_s2 vl vm o0 o1 n m at_ xs ys a b eab exy) ∧ ifB eab (still (vcA_s2 vl vm o0 o1 n m at_ xs ys a b eab exy) (aBin E BinOp.neq 23 (Operand.tmp 35) (Operand.tmp 36) (AV.agg (cl xs)) (AV.agg (cl ys))) = some (AV.bool !exy, vcA_s2 vl vm o0 o1 n m at_ xs ys a b eab exy) ∧ ifB (!exy) (holdsO [(some (AV.agg (cl xs)), AV.agg (cl xs))] ∧ Q2 (Exit.ret, some (AV.bool false))) (still (vcA_s2 vl vm o0 o1 n m at_ xs ys a b eab exy) (aBin E BinOp.eql 23 (Operand.tmp 41) (Operand.tmp 42) (AV.agg (cl xs)) (AV.agg (cl ys))) = some (AV.bool exy, vcA_s2 vl vm o0 o1 n m at_ xs ys a b eab exy) ∧ ifB exy ((M E (drawA E) sm 28).call 7 [vl] (vcA_s2 vl vm o0 o1 n m at_ xs ys a b eab exy) = some (AV.agg (cl xs), vcA_s2 vl vm o0 o1 n m at_ xs ys a b eab exy) ∧ (M E (drawA E) sm 28).call 7 [vm] (vcA_s3 vl vm o0 o1 n m at_ xs ys a b eab exy) = some (AV.agg (cl xs), vcA_s3 vl vm o0 o1 n m at_ xs ys a b eab exy) ∧ ifB (!eqF (wrapF IntKind.u64 (Int.ofNat (Nat.lor (modN (shlF IntKind.u64 (wrapF IntKind.u64 (Int.ofNat (Nat.lor (modN (shlF IntKind.u64 (wrapF IntKind.u64 (Int.ofNat (Nat.lor (modN (shlF IntKind.u64 (wrapF IntKind.u64 (Int.ofNat (Nat.lor (modN (shlF IntKind.u64 (wrapF IntKind.u64 (Int.ofNat (Nat.lor (modN (shlF IntKind.u64 (wrapF IntKind.u64 (Int.ofNat (Nat.lor (modN (shlF IntKind.u64 (wrapF IntKind.u64 (Int.ofNat (Nat.lor (modN (shlF IntKind.u64 (wrapF IntKind.u64 (Int.ofNat (Nat.lor 0 (modN (wrapF IntKind.u64 (xs 0)) 18446744073709551616)))) 8) 18446744073709551616) (modN (wrapF IntKind.u64 (xs 1)) 18446744073709551616)))) 8) 18446744073709551616) (modN (wrapF IntKind.u64 (xs 2)) 18446744073709551616)))) 8) 18446744073709551616) (modN (wrapF IntKind.u64 (xs 3)) 18446744073709551616)))) 8) 18446744073709551616) (modN (wrapF IntKind.u64 (xs 4)) 18446744073709551616)))) 8) 18446744073709551616) (modN (wrapF IntKind.u64 (xs 5)) 18446744073709551616)))) 8) 18446744073709551616) (modN (wrapF IntKind.u64 (xs 6)) 18446744073709551616)))) 8) 18446744073709551616) (modN (wrapF IntKind.u64 (xs 7)) 18446744073709551616)))) (wrapF IntKind.u64 (Int.ofNat (Nat.lor (modN (shlF IntKind.u64 (wrapF IntKind.u64 (Int.ofNat (Nat.lor (modN (shlF IntKind.u64 (wrapF IntKind.u64 (Int.ofNat (Nat.lor (modN (shlF IntKind.u64 (wrapF IntKind.u64 (Int.ofNat (Nat.lor (modN (shlF IntKind.u64 (wrapF IntKind.u64 (Int.ofNat (Nat.lor (modN (shlF IntKind.u64 (wrapF IntKind.u64 (Int.ofNat (Nat.lor (modN (shlF IntKind.u64 (wrapF IntKind.u64 (Int.ofNat (Nat.lor (modN (shlF IntKind.u64 (wrapF IntKind.u64 (Int.ofNat (Nat.lor 0 (modN (wrapF IntKind.u64 (xs 0)) 18446744073709551616)))) 8) 18446744073709551616) (modN (wrapF IntKind.u64 (xs 1)) 18446744073709551616)))) 8) 18446744073709551616) (modN (wrapF IntKind.u64 (xs 2)) 18446744073709551616)))) 8) 18446744073709551616) (modN (wrapF IntKind.u64 (xs 3)) 18446744073709551616)))) 8) 18446744073709551616) (modN (wrapF IntKind.u64 (xs 4)) 18446744073709551616)))) 8) 18446744073709551616) (modN (wrapF IntKind.u64 (xs 5)) 18446744073709551616)))) 8) 18446744073709551616) (modN (wrapF IntKind.u64 (xs 6)) 18446744073709551616)))) 8) 18446744073709551616) (modN (wrapF IntKind.u64 (xs 7)) 18446744073709551616))))) (holdsO [(some (AV.agg (cl xs)), AV.agg (cl xs))] ∧ Q2 (Exit.ret, some (AV.bool false))) (holdsO [(some (AV.agg (cl xs)), AV.agg (cl xs))] ∧ Q (Exit.normal, xFr [(0, vl), (1, vm), (2, AV.int IntKind.i64 at_)] 84, vcA_s4 vl vm o0 o1 n m at_ xs ys a b eab exy))) (holdsO [(some (AV.agg (cl xs)), AV.agg (cl xs))] ∧ Q (Exit.normal, xFr [(0, vl), (1, vm), (2, AV.int IntKind.i64 at_)] 84, vcA_s2 vl vm o0 o1 n m at_ xs ys a b eab exy)))) (still (vcA_s2 vl vm o0 o1 n m at_ xs ys a b eab exy) (aBin E BinOp.eql 23 (Operand.tmp 41) (Operand.tmp 42) (AV.agg (cl xs)) (AV.agg (cl ys))) = some (AV.bool exy, vcA_s2 vl vm o0 o1 n m at_ xs ys a b eab exy) ∧ ifB exy ((M E (drawA E) sm 28).call 7 [vl] (vcA_s2 vl vm o0 o1 n m at_ xs ys a b eab exy) = some (AV.agg (cl xs), vcA_s2 vl vm o0 o1 n m at_ xs ys a b eab exy) ∧ (M E (drawA E) sm 28).call 7 [vm] (vcA_s3 vl vm o0 o1 n m at_ xs ys a b eab exy) = some (AV.agg (cl xs), vcA_s3 vl vm o0 o1 n m at_ xs ys a b eab exy) ∧ ifB (!eqF (wrapF IntKind.u64 (Int.ofNat (Nat.lor (modN (shlF IntKind.u64 (wrapF IntKind.u64 (Int.ofNat (Nat.lor (modN (shlF IntKind.u64 (wrapF IntKind.u64 (Int.ofNat (Nat.lor (modN (shlF IntKind.u64 (wrapF IntKind.u64 (Int.ofNat (Nat.lor (modN (shlF IntKind.u64 (wrapF IntKind.u64 (Int.ofNat (Nat.lor (modN (shlF IntKind.u64 (wrapF IntKind.u64 (Int.ofNat (Nat.lor (modN (shlF IntKind.u64 (wrapF IntKind.u64 (Int.ofNat (Nat.lor (modN (shlF IntKind.u64 (wrapF IntKind.u64 (Int.ofNat (Nat.lor 0 (modN (wrapF IntKind.u64 (xs 0)) 18446744073709551616)))) 8) 18446744073709551616) (modN (wrapF IntKind.u64 (xs 1)) 18446744073709551616)))) 8) 18446744073709551616) (modN (wrapF IntKind.u64 (xs 2)) 18446744073709551616)))) 8) 18446744073709551616) (modN (wrapF IntKind.u64 (xs 3)) 18446744073709551616)))) 8) 18446744073709551616) (modN (wrapF IntKind.u64 (xs 4)) 18446744073709551616)))) 8) 18446744073709551616) (modN (wrapF IntKind.u64 (xs 5)) 18446744073709551616)))) 8) 18446744073709551616) (modN (wrapF IntKind.u64 (xs 6)) 18446744073709551616)))) 8) 18446744073709551616) (modN (wrapF IntKind.u64 (xs 7)) 18446744073709551616)))) (wrapF IntKind.u64 (Int.ofNat (Nat.lor (modN (shlF IntKind.u64 (wrapF IntKind.u64 (Int.ofNat (Nat.lor (modN (shlF IntKind.u64 (wrapF IntKind.u64 (Int.ofNat (Nat.lor (modN (shlF IntKind.u64 (wrapF IntKind.u64 (Int.ofNat (Nat.lor (modN (shlF IntKind.u64 (wrapF IntKind.u64 (Int.ofNat (Nat.lor (modN (shlF IntKind.u64 (wrapF IntKind.u64 (Int.ofNat (Nat.lor (modN (shlF IntKind.u64 (wrapF IntKind.u64 (Int.ofNat (Nat.lor (modN (shlF IntKind.u64 (wrapF IntKind.u64 (Int.ofNat (Nat.lor 0 (modN (wrapF IntKind.u64 (xs 0)) 18446744073709551616)))) 8) 18446744073709551616) (modN (wrapF IntKind.u64 (xs 1)) 18446744073709551616)))) 8) 18446744073709551616) (modN (wrapF IntKind.u64 (xs 2)) 18446744073709551616)))) 8) 18446744073709551616) (modN (wrapF IntKind.u64 (xs 3)) 18446744073709551616)))) 8) 18446744073709551616) (modN (wrapF IntKind.u64 (xs 4)) 18446744073709551616)))) 8) 18446744073709551616) (modN (wrapF IntKind.u64 (xs 5)) 18446744073709551616)))) 8) 18446744073709551616) (modN (wrapF IntKind.u64 (xs 6)) 18446744073709551616)))) 8) 18446744073709551616) (modN (wrapF IntKind.u64 (xs 7)) 18446744073709551616))))) (holdsO [(some (AV.agg (cl xs)), AV.agg (cl xs))] ∧ Q2 (Exit.ret, some (AV.bool false))) (holdsO [(some (AV.agg (cl xs)), AV.agg (cl xs))] ∧ Q (Exit.normal, xFr [(0, vl), (1, vm), (2, AV.int IntKind.i64 at_)] 84, vcA_s4 vl vm o0 o1 n m at_ xs ys a b eab exy))) (holdsO [(some (AV.agg (cl xs)), AV.agg (cl xs))] ∧ Q (Exit.normal, xFr [(0, vl), (1, vm), (2, AV.int IntKind.i64 at_)] 84, vcA_s2 vl vm o0 o1 n m at_ xs ys a b eab exy)))))) =
  (tA vl vm o0 o1 n m at_ xs ys a b eab exy).allY (mixQ E Try.f6 [0, 1, 2] [0, 1, 2, 3, 4] Q Q2) (An.v (AV.int IntKind.i64 (Int.ofNat n), vcA_s0 vl vm o0 o1 n m at_ xs ys a b eab exy) (An.b An.nil (An.v (AV.int IntKind.i64 (Int.ofNat m), vcA_s0 vl vm o0 o1 n m at_ xs ys a b eab exy) (An.b An.nil (An.v (AV.agg (cl xs), vcA_s0 vl vm o0 o1 n m at_ xs ys a b eab exy) (An.v (AV.agg (cl ys), vcA_s1 vl vm o0 o1 n m at_ xs ys a b eab exy) (An.v (AV.agg (cl xs), vcA_s2 vl vm o0 o1 n m at_ xs ys a b eab exy) (An.v (AV.bool false, vcA_s2 vl vm o0 o1 n m at_ xs ys a b eab exy) (An.b An.nil (An.v (AV.str a, vcA_s2 vl vm o0 o1 n m at_ xs ys a b eab exy) (An.v (AV.str b, vcA_s2 vl vm o0 o1 n m at_ xs ys a b eab exy) (An.v (AV.bool eab, vcA_s2 vl vm o0 o1 n m at_ xs ys a b eab exy) (An.b (An.v (AV.bool !exy, vcA_s2 vl vm o0 o1 n m at_ xs ys a b eab exy) (An.b An.nil (An.v (AV.bool exy, vcA_s2 vl vm o0 o1 n m at_ xs ys a b eab exy) (An.b (An.v (AV.agg (cl xs), vcA_s2 vl vm o0 o1 n m at_ xs ys a b eab exy) (An.v (AV.agg (cl xs), vcA_s3 vl vm o0 o1 n m at_ xs ys a b eab exy) (An.b An.nil An.nil))) An.nil)))) (An.v (AV.bool exy, vcA_s2 vl vm o0 o1 n m at_ xs ys a b eab exy) (An.b (An.v (AV.agg (cl xs), vcA_s2 vl vm o0 o1 n m at_ xs ys a b eab exy) (An.v (AV.agg (cl xs), vcA_s3 vl vm o0 o1 n m at_ xs ys a b eab exy) (An.b An.nil An.nil))) An.nil))))))))))))))) := by kernel_rfl

noncomputable def vcB00_s0 (vl : AV) (vm : AV) (o0 : AO) (o1 : AO) (n : Nat) (k : Nat) (w : AV) (v3 : AV) (v5 : AV) (u1 : AV) (u2 : AV) (u3 : AV) (zs : Nat → Int) (ca : List AV) (cb : List AV) (b : List Nat) : ASt := mkSt [(0, o0), (1, o1)] 2
noncomputable def vcB00_s1 (vl : AV) (vm : AV) (o0 : AO) (o1 : AO) (n : Nat) (k : Nat) (w : AV) (v3 : AV) (v5 : AV) (u1 : AV) (u2 : AV) (u3 : AV) (zs : Nat → Int) (ca : List AV) (cb : List AV) (b : List Nat) : ASt := mkSt [(0, o0), (1, o1)] 21
theorem vcB00 (vl : AV) (vm : AV) (o0 : AO) (o1 : AO) (n : Nat) (k : Nat) (w : AV) (v3 : AV) (v5 : AV) (u1 : AV) (u2 : AV) (u3 : AV) (zs : Nat → Int) (ca : List AV) (cb : List AV) (b : List Nat) (Q : Exit × AFr × ASt → Prop) (Q2 : Exit × Option AV → Prop) :
  (aBuiltinM E Builtin.len [22] [vl] (vcB00_s0 vl vm o0 o1 n k w v3 v5 u1 u2 u3 zs ca cb b) = some (AV.int IntKind.i64 (Int.ofNat n), vcB00_s0 vl vm o0 o1 n k w v3 v5 u1 u2 u3 zs ca cb b) ∧ ifB (ltF (Int.ofNat n) (Int.ofNat k)) (Q2 (Exit.ret, some (AV.bool true))) (still (vcB00_s0 vl vm o0 o1 n k w v3 v5 u1 u2 u3 zs ca cb b) (aSlice E 22 vl none (some (AV.int IntKind.i64 (Int.ofNat k))) none (vcB00_s0 vl vm o0 o1 n k w v3 v5 u1 u2 u3 zs ca cb b)) = some (w, vcB00_s0 vl vm o0 o1 n k w v3 v5 u1 u2 u3 zs ca cb b) ∧ aBuiltinM E Builtin.append [22, 22] [AV.slice none 0 (Cap.known 0), w] (vcB00_s0 vl vm o0 o1 n k w v3 v5 u1 u2 u3 zs ca cb b) = some (v3, vcB00_s0 vl vm o0 o1 n k w v3 v5 u1 u2 u3 zs ca cb b) ∧ aBuiltinM E Builtin.append [22, 22] [v3, vm] (vcB00_s0 vl vm o0 o1 n k w v3 v5 u1 u2 u3 zs ca cb b) = some (v5, vcB00_s0 vl vm o0 o1 n k w v3 v5 u1 u2 u3 zs ca cb b) ∧ still (vcB00_s1 vl vm o0 o1 n k w v3 v5 u1 u2 u3 zs ca cb b) (aSlice E 22 v5 none (some (AV.int IntKind.i64 (Int.ofNat k))) none (vcB00_s1 vl vm o0 o1 n k w v3 v5 u1 u2 u3 zs ca cb b)) = some (u1, vcB00_s1 vl vm o0 o1 n k w v3 v5 u1 u2 u3 zs ca cb b) ∧ (M E (drawA E) sm 36).call 7 [u1] (vcB00_s1 vl vm o0 o1 n k w v3 v5 u1 u2 u3 zs ca cb b) = some (AV.agg (cl zs), vcB00_s1 vl vm o0 o1 n k w v3 v5 u1 u2 u3 zs ca cb b) ∧ still (vcB00_s1 vl vm o0 o1 n k w v3 v5 u1 u2 u3 zs ca cb b) (aSlice E 22 vl none (some (AV.int IntKind.i64 (Int.ofNat k))) none (vcB00_s1 vl vm o0 o1 n k w v3 v5 u1 u2 u3 zs ca cb b)) = some (u2, vcB00_s1 vl vm o0 o1 n k w v3 v5 u1 u2 u3 zs ca cb b) ∧ (M E (drawA E) sm 36).call 7 [u2] (vcB00_s1 vl vm o0 o1 n k w v3 v5 u1 u2 u3 zs ca cb b) = some (AV.agg (cl zs), vcB00_s1 vl vm o0 o1 n k w v3 v5 u1 u2 u3 zs ca cb b) ∧ still (vcB00_s1 vl vm o0 o1 n k w v3 v5 u1 u2 u3 zs ca cb b) (aBin E BinOp.eql 23 (Operand.tmp 69) (Operand.tmp 73) (AV.agg (cl zs)) (AV.agg (cl zs))) = some (AV.bool true, vcB00_s1 vl vm o0 o1 n k w v3 v5 u1 u2 u3 zs ca cb b) ∧ still (vcB00_s1 vl vm o0 o1 n k w v3 v5 u1 u2 u3 zs ca cb b) (aSlice E 22 v5 (some (AV.int IntKind.i64 (Int.ofNat k))) none none (vcB00_s1 vl vm o0 o1 n k w v3 v5 u1 u2 u3 zs ca cb b)) = some (u3, vcB00_s1 vl vm o0 o1 n k w v3 v5 u1 u2 u3 zs ca cb b) ∧ aConvert E 22 9 u3 (vcB00_s1 vl vm o0 o1 n k w v3 v5 u1 u2 u3 zs ca cb b) = some (AV.str b, vcB00_s1 vl vm o0 o1 n k w v3 v5 u1 u2 u3 zs ca cb b) ∧ aConvert E 22 9 vm (vcB00_s1 vl vm o0 o1 n k w v3 v5 u1 u2 u3 zs ca cb b) = some (AV.str b, vcB00_s1 vl vm o0 o1 n k w v3 v5 u1 u2 u3 zs ca cb b) ∧ still (vcB00_s1 vl vm o0 o1 n k w v3 v5 u1 u2 u3 zs ca cb b) (aBin E BinOp.eql 9 (Operand.tmp 79) (Operand.tmp 81) (AV.str b) (AV.str b)) = some (AV.bool true, vcB00_s1 vl vm o0 o1 n k w v3 v5 u1 u2 u3 zs ca cb b) ∧ holdsO [(fstO (still (vcB00_s1 vl vm o0 o1 n k w v3 v5 u1 u2 u3 zs ca cb b) (aSlice E 22 vl none (some (AV.int IntKind.i64 (Int.ofNat k))) none (vcB00_s1 vl vm o0 o1 n k w v3 v5 u1 u2 u3 zs ca cb b))), u2)] ∧ Q2 (Exit.ret, some (AV.bool true)))) =
  (tB vl vm o0 o1 n k w v3 v5 u1 u2 u3 zs ca cb b).allY (mixQ E Try.f6 [0, 1, 2] [0, 1, 2, 3, 4] Q Q2) (An.b An.nil (An.v (AV.int IntKind.i64 (Int.ofNat n), vcB00_s0 vl vm o0 o1 n k w v3 v5 u1 u2 u3 zs ca cb b) (An.b An.nil (An.v (w, vcB00_s0 vl vm o0 o1 n k w v3 v5 u1 u2 u3 zs ca cb b) (An.v (v3, vcB00_s0 vl vm o0 o1 n k w v3 v5 u1 u2 u3 zs ca cb b) (An.v (v5, vcB00_s0 vl vm o0 o1 n k w v3 v5 u1 u2 u3 zs ca cb b) (An.v (u1, vcB00_s1 vl vm o0 o1 n k w v3 v5 u1 u2 u3 zs ca cb b) (An.v (AV.agg (cl zs), vcB00_s1 vl vm o0 o1 n k w v3 v5 u1 u2 u3 zs ca cb b) (An.v (u2, vcB00_s1 vl vm o0 o1 n k w v3 v5 u1 u2 u3 zs ca cb b) (An.v (AV.agg (cl zs), vcB00_s1 vl vm o0 o1 n k w v3 v5 u1 u2 u3 zs ca cb b) (An.v (AV.bool true, vcB00_s1 vl vm o0 o1 n k w v3 v5 u1 u2 u3 zs ca cb b) (An.b (An.v (u3, vcB00_s1 vl vm o0 o1 n k w v3 v5 u1 u2 u3 zs ca cb b) (An.v (AV.str b, vcB00_s1 vl vm o0 o1 n k w v3 v5 u1 u2 u3 zs ca cb b) (An.v (AV.str b, vcB00_s1 vl vm o0 o1 n k w v3 v5 u1 u2 u3 zs ca cb b) (An.v (AV.bool true, vcB00_s1 vl vm o0 o1 n k w v3 v5 u1 u2 u3 zs ca cb b) (An.b An.nil An.nil))))) An.nil)))))))))))) := by kernel_rfl
noncomputable def vcB01_s0 (vl : AV) (vm : AV) (o0 : AO) (o1 : AO) (n : Nat) (k : Nat) (w : AV) (v3 : AV) (v5 : AV) (u1 : AV) (u2 : AV) (u3 : AV) (zs : Nat → Int) (ca : List AV) (cb : List AV) (b : List Nat) : ASt := mkSt [(0, o0), (1, o1)] 2
noncomputable def vcB01_s1 (vl : AV) (vm : AV) (o0 : AO) (o1 : AO) (n : Nat) (k : Nat) (w : AV) (v3 : AV) (v5 : AV) (u1 : AV) (u2 : AV) (u3 : AV) (zs : Nat → Int) (ca : List AV) (cb : List AV) (b : List Nat) : ASt := mkSt [(0, o0), (1, o1), (2, AO.cells cb true)] 3
noncomputable def vcB01_s2 (vl : AV) (vm : AV) (o0 : AO) (o1 : AO) (n : Nat) (k : Nat) (w : AV) (v3 : AV) (v5 : AV) (u1 : AV) (u2 : AV) (u3 : AV) (zs : Nat → Int) (ca : List AV) (cb : List AV) (b : List Nat) : ASt := mkSt [(0, o0), (1, o1), (2, AO.cells cb true)] 22
theorem vcB01 (vl : AV) (vm : AV) (o0 : AO) (o1 : AO) (n : Nat) (k : Nat) (w : AV) (v3 : AV) (v5 : AV) (u1 : AV) (u2 : AV) (u3 : AV) (zs : Nat → Int) (ca : List AV) (cb : List AV) (b : List Nat) (Q : Exit × AFr × ASt → Prop) (Q2 : Exit × Option AV → Prop) :
  (aBuiltinM E Builtin.len [22] [vl] (vcB01_s0 vl vm o0 o1 n k w v3 v5 u1 u2 u3 zs ca cb b) = some (AV.int IntKind.i64 (Int.ofNat n), vcB01_s0 vl vm o0 o1 n k w v3 v5 u1 u2 u3 zs ca cb b) ∧ ifB (ltF (Int.ofNat n) (Int.ofNat k)) (Q2 (Exit.ret, some (AV.bool true))) (still (vcB01_s0 vl vm o0 o1 n k w v3 v5 u1 u2 u3 zs ca cb b) (aSlice E 22 vl none (some (AV.int IntKind.i64 (Int.ofNat k))) none (vcB01_s0 vl vm o0 o1 n k w v3 v5 u1 u2 u3 zs ca cb b)) = some (w, vcB01_s0 vl vm o0 o1 n k w v3 v5 u1 u2 u3 zs ca cb b) ∧ aBuiltinM E Builtin.append [22, 22] [AV.slice none 0 (Cap.known 0), w] (vcB01_s0 vl vm o0 o1 n k w v3 v5 u1 u2 u3 zs ca cb b) = some (v3, vcB01_s0 vl vm o0 o1 n k w v3 v5 u1 u2 u3 zs ca cb b) ∧ aBuiltinM E Builtin.append [22, 22] [v3, vm] (vcB01_s0 vl vm o0 o1 n k w v3 v5 u1 u2 u3 zs ca cb b) = some (v5, vcB01_s1 vl vm o0 o1 n k w v3 v5 u1 u2 u3 zs ca cb b) ∧ still (vcB01_s2 vl vm o0 o1 n k w v3 v5 u1 u2 u3 zs ca cb b) (aSlice E 22 v5 none (some (AV.int IntKind.i64 (Int.ofNat k))) none (vcB01_s2 vl vm o0 o1 n k w v3 v5 u1 u2 u3 zs ca cb b)) = some (u1, vcB01_s2 vl vm o0 o1 n k w v3 v5 u1 u2 u3 zs ca cb b) ∧ (M E (drawA E) sm 36).call 7 [u1] (vcB01_s2 vl vm o0 o1 n k w v3 v5 u1 u2 u3 zs ca cb b) = some (AV.agg (cl zs), vcB01_s2 vl vm o0 o1 n k w v3 v5 u1 u2 u3 zs ca cb b) ∧ still (vcB01_s2 vl vm o0 o1 n k w v3 v5 u1 u2 u3 zs ca cb b) (aSlice E 22 vl none (some (AV.int IntKind.i64 (Int.ofNat k))) none (vcB01_s2 vl vm o0 o1 n k w v3 v5 u1 u2 u3 zs ca cb b)) = some (u2, vcB01_s2 vl vm o0 o1 n k w v3 v5 u1 u2 u3 zs ca cb b) ∧ (M E (drawA E) sm 36).call 7 [u2] (vcB01_s2 vl vm o0 o1 n k w v3 v5 u1 u2 u3 zs ca cb b) = some (AV.agg (cl zs), vcB01_s2 vl vm o0 o1 n k w v3 v5 u1 u2 u3 zs ca cb b) ∧ still (vcB01_s2 vl vm o0 o1 n k w v3 v5 u1 u2 u3 zs ca cb b) (aBin E BinOp.eql 23 (Operand.tmp 69) (Operand.tmp 73) (AV.agg (cl zs)) (AV.agg (cl zs))) = some (AV.bool true, vcB01_s2 vl vm o0 o1 n k w v3 v5 u1 u2 u3 zs ca cb b) ∧ still (vcB01_s2 vl vm o0 o1 n k w v3 v5 u1 u2 u3 zs ca cb b) (aSlice E 22 v5 (some (AV.int IntKind.i64 (Int.ofNat k))) none none (vcB01_s2 vl vm o0 o1 n k w v3 v5 u1 u2 u3 zs ca cb b)) = some (u3, vcB01_s2 vl vm o0 o1 n k w v3 v5 u1 u2 u3 zs ca cb b) ∧ aConvert E 22 9 u3 (vcB01_s2 vl vm o0 o1 n k w v3 v5 u1 u2 u3 zs ca cb b) = some (AV.str b, vcB01_s2 vl vm o0 o1 n k w v3 v5 u1 u2 u3 zs ca cb b) ∧ aConvert E 22 9 vm (vcB01_s2 vl vm o0 o1 n k w v3 v5 u1 u2 u3 zs ca cb b) = some (AV.str b, vcB01_s2 vl vm o0 o1 n k w v3 v5 u1 u2 u3 zs ca cb b) ∧ still (vcB01_s2 vl vm o0 o1 n k w v3 v5 u1 u2 u3 zs ca cb b) (aBin E BinOp.eql 9 (Operand.tmp 79) (Operand.tmp 81) (AV.str b) (AV.str b)) = some (AV.bool true, vcB01_s2 vl vm o0 o1 n k w v3 v5 u1 u2 u3 zs ca cb b) ∧ holdsO [(fstO (still (vcB01_s2 vl vm o0 o1 n k w v3 v5 u1 u2 u3 zs ca cb b) (aSlice E 22 vl none (some (AV.int IntKind.i64 (Int.ofNat k))) none (vcB01_s2 vl vm o0 o1 n k w v3 v5 u1 u2 u3 zs ca cb b))), u2)] ∧ Q2 (Exit.ret, some (AV.bool true)))) =
  (tB vl vm o0 o1 n k w v3 v5 u1 u2 u3 zs ca cb b).allY (mixQ E Try.f6 [0, 1, 2] [0, 1, 2, 3, 4] Q Q2) (An.b An.nil (An.v (AV.int IntKind.i64 (Int.ofNat n), vcB01_s0 vl vm o0 o1 n k w v3 v5 u1 u2 u3 zs ca cb b) (An.b An.nil (An.v (w, vcB01_s0 vl vm o0 o1 n k w v3 v5 u1 u2 u3 zs ca cb b) (An.v (v3, vcB01_s0 vl vm o0 o1 n k w v3 v5 u1 u2 u3 zs ca cb b) (An.v (v5, vcB01_s1 vl vm o0 o1 n k w v3 v5 u1 u2 u3 zs ca cb b) (An.v (u1, vcB01_s2 vl vm o0 o1 n k w v3 v5 u1 u2 u3 zs ca cb b) (An.v (AV.agg (cl zs), vcB01_s2 vl vm o0 o1 n k w v3 v5 u1 u2 u3 zs ca cb b) (An.v (u2, vcB01_s2 vl vm o0 o1 n k w v3 v5 u1 u2 u3 zs ca cb b) (An.v (AV.agg (cl zs), vcB01_s2 vl vm o0 o1 n k w v3 v5 u1 u2 u3 zs ca cb b) (An.v (AV.bool true, vcB01_s2 vl vm o0 o1 n k w v3 v5 u1 u2 u3 zs ca cb b) (An.b (An.v (u3, vcB01_s2 vl vm o0 o1 n k w v3 v5 u1 u2 u3 zs ca cb b) (An.v (AV.str b, vcB01_s2 vl vm o0 o1 n k w v3 v5 u1 u2 u3 zs ca cb b) (An.v (AV.str b, vcB01_s2 vl vm o0 o1 n k w v3 v5 u1 u2 u3 zs ca cb b) (An.v (AV.bool true, vcB01_s2 vl vm o0 o1 n k w v3 v5 u1 u2 u3 zs ca cb b) (An.b An.nil An.nil))))) An.nil)))))))))))) := by kernel_rfl
noncomputable def vcB10_s0 (vl : AV) (vm : AV) (o0 : AO) (o1 : AO) (n : Nat) (k : Nat) (w : AV) (v3 : AV) (v5 : AV) (u1 : AV) (u2 : AV) (u3 : AV) (zs : Nat → Int) (ca : List AV) (cb : List AV) (b : List Nat) : ASt := mkSt [(0, o0), (1, o1)] 2
noncomputable def vcB10_s1 (vl : AV) (vm : AV) (o0 : AO) (o1 : AO) (n : Nat) (k : Nat) (w : AV) (v3 : AV) (v5 : AV) (u1 : AV) (u2 : AV) (u3 : AV) (zs : Nat → Int) (ca : List AV) (cb : List AV) (b : List Nat) : ASt := mkSt [(0, o0), (1, o1), (2, AO.cells ca true)] 3
noncomputable def vcB10_s2 (vl : AV) (vm : AV) (o0 : AO) (o1 : AO) (n : Nat) (k : Nat) (w : AV) (v3 : AV) (v5 : AV) (u1 : AV) (u2 : AV) (u3 : AV) (zs : Nat → Int) (ca : List AV) (cb : List AV) (b : List Nat) : ASt := mkSt [(0, o0), (1, o1), (2, AO.cells ca true)] 22
theorem vcB10 (vl : AV) (vm : AV) (o0 : AO) (o1 : AO) (n : Nat) (k : Nat) (w : AV) (v3 : AV) (v5 : AV) (u1 : AV) (u2 : AV) (u3 : AV) (zs : Nat → Int) (ca : List AV) (cb : List AV) (b : List Nat) (Q : Exit × AFr × ASt → Prop) (Q2 : Exit × Option AV → Prop) :
  (aBuiltinM E Builtin.len [22] [vl] (vcB10_s0 vl vm o0 o1 n k w v3 v5 u1 u2 u3 zs ca cb b) = some (AV.int IntKind.i64 (Int.ofNat n), vcB10_s0 vl vm o0 o1 n k w v3 v5 u1 u2 u3 zs ca cb b) ∧ ifB (ltF (Int.ofNat n) (Int.ofNat k)) (Q2 (Exit.ret, some (AV.bool true))) (still (vcB10_s0 vl vm o0 o1 n k w v3 v5 u1 u2 u3 zs ca cb b) (aSlice E 22 vl none (some (AV.int IntKind.i64 (Int.ofNat k))) none (vcB10_s0 vl vm o0 o1 n k w v3 v5 u1 u2 u3 zs ca cb b)) = some (w, vcB10_s0 vl vm o0 o1 n k w v3 v5 u1 u2 u3 zs ca cb b) ∧ aBuiltinM E Builtin.append [22, 22] [AV.slice none 0 (Cap.known 0), w] (vcB10_s0 vl vm o0 o1 n k w v3 v5 u1 u2 u3 zs ca cb b) = some (v3, vcB10_s1 vl vm o0 o1 n k w v3 v5 u1 u2 u3 zs ca cb b) ∧ aBuiltinM E Builtin.append [22, 22] [v3, vm] (vcB10_s1 vl vm o0 o1 n k w v3 v5 u1 u2 u3 zs ca cb b) = some (v5, vcB10_s1 vl vm o0 o1 n k w v3 v5 u1 u2 u3 zs ca cb b) ∧ still (vcB10_s2 vl vm o0 o1 n k w v3 v5 u1 u2 u3 zs ca cb b) (aSlice E 22 v5 none (some (AV.int IntKind.i64 (Int.ofNat k))) none (vcB10_s2 vl vm o0 o1 n k w v3 v5 u1 u2 u3 zs ca cb b)) = some (u1, vcB10_s2 vl vm o0 o1 n k w v3 v5 u1 u2 u3 zs ca cb b) ∧ (M E (drawA E) sm 36).call 7 [u1] (vcB10_s2 vl vm o0 o1 n k w v3 v5 u1 u2 u3 zs ca cb b) = some (AV.agg (cl zs), vcB10_s2 vl vm o0 o1 n k w v3 v5 u1 u2 u3 zs ca cb b) ∧ still (vcB10_s2 vl vm o0 o1 n k w v3 v5 u1 u2 u3 zs ca cb b) (aSlice E 22 vl none (some (AV.int IntKind.i64 (Int.ofNat k))) none (vcB10_s2 vl vm o0 o1 n k w v3 v5 u1 u2 u3 zs ca cb b)) = some (u2, vcB10_s2 vl vm o0 o1 n k w v3 v5 u1 u2 u3 zs ca cb b) ∧ (M E (drawA E) sm 36).call 7 [u2] (vcB10_s2 vl vm o0 o1 n k w v3 v5 u1 u2 u3 zs ca cb b) = some (AV.agg (cl zs), vcB10_s2 vl vm o0 o1 n k w v3 v5 u1 u2 u3 zs ca cb b) ∧ still (vcB10_s2 vl vm o0 o1 n k w v3 v5 u1 u2 u3 zs ca cb b) (aBin E BinOp.eql 23 (Operand.tmp 69) (Operand.tmp 73) (AV.agg (cl zs)) (AV.agg (cl zs))) = some (AV.bool true, vcB10_s2 vl vm o0 o1 n k w v3 v5 u1 u2 u3 zs ca cb b) ∧ still (vcB10_s2 vl vm o0 o1 n k w v3 v5 u1 u2 u3 zs ca cb b) (aSlice E 22 v5 (some (AV.int IntKind.i64 (Int.ofNat k))) none none (vcB10_s2 vl vm o0 o1 n k w v3 v5 u1 u2 u3 zs ca cb b)) = some (u3, vcB10_s2 vl vm o0 o1 n k w v3 v5 u1 u2 u3 zs ca cb b) ∧ aConvert E 22 9 u3 (vcB10_s2 vl vm o0 o1 n k w v3 v5 u1 u2 u3 zs ca cb b) = some (AV.str b, vcB10_s2 vl vm o0 o1 n k w v3 v5 u1 u2 u3 zs ca cb b) ∧ aConvert E 22 9 vm (vcB10_s2 vl vm o0 o1 n k w v3 v5 u1 u2 u3 zs ca cb b) = some (AV.str b, vcB10_s2 vl vm o0 o1 n k w v3 v5 u1 u2 u3 zs ca cb b) ∧ still (vcB10_s2 vl vm o0 o1 n k w v3 v5 u1 u2 u3 zs ca cb b) (aBin E BinOp.eql 9 (Operand.tmp 79) (Operand.tmp 81) (AV.str b) (AV.str b)) = some (AV.bool true, vcB10_s2 vl vm o0 o1 n k w v3 v5 u1 u2 u3 zs ca cb b) ∧ holdsO [(fstO (still (vcB10_s2 vl vm o0 o1 n k w v3 v5 u1 u2 u3 zs ca cb b) (aSlice E 22 vl none (some (AV.int IntKind.i64 (Int.ofNat k))) none (vcB10_s2 vl vm o0 o1 n k w v3 v5 u1 u2 u3 zs ca cb b))), u2)] ∧ Q2 (Exit.ret, some (AV.bool true)))) =
  (tB vl vm o0 o1 n k w v3 v5 u1 u2 u3 zs ca cb b).allY (mixQ E Try.f6 [0, 1, 2] [0, 1, 2, 3, 4] Q Q2) (An.b An.nil (An.v (AV.int IntKind.i64 (Int.ofNat n), vcB10_s0 vl vm o0 o1 n k w v3 v5 u1 u2 u3 zs ca cb b) (An.b An.nil (An.v (w, vcB10_s0 vl vm o0 o1 n k w v3 v5 u1 u2 u3 zs ca cb b) (An.v (v3, vcB10_s1 vl vm o0 o1 n k w v3 v5 u1 u2 u3 zs ca cb b) (An.v (v5, vcB10_s1 vl vm o0 o1 n k w v3 v5 u1 u2 u3 zs ca cb b) (An.v (u1, vcB10_s2 vl vm o0 o1 n k w v3 v5 u1 u2 u3 zs ca cb b) (An.v (AV.agg (cl zs), vcB10_s2 vl vm o0 o1 n k w v3 v5 u1 u2 u3 zs ca cb b) (An.v (u2, vcB10_s2 vl vm o0 o1 n k w v3 v5 u1 u2 u3 zs ca cb b) (An.v (AV.agg (cl zs), vcB10_s2 vl vm o0 o1 n k w v3 v5 u1 u2 u3 zs ca cb b) (An.v (AV.bool true, vcB10_s2 vl vm o0 o1 n k w v3 v5 u1 u2 u3 zs ca cb b) (An.b (An.v (u3, vcB10_s2 vl vm o0 o1 n k w v3 v5 u1 u2 u3 zs ca cb b) (An.v (AV.str b, vcB10_s2 vl vm o0 o1 n k w v3 v5 u1 u2 u3 zs ca cb b) (An.v (AV.str b, vcB10_s2 vl vm o0 o1 n k w v3 v5 u1 u2 u3 zs ca cb b) (An.v (AV.bool true, vcB10_s2 vl vm o0 o1 n k w v3 v5 u1 u2 u3 zs ca cb b) (An.b An.nil An.nil))))) An.nil)))))))))))) := by kernel_rfl
noncomputable def vcB11_s0 (vl : AV) (vm : AV) (o0 : AO) (o1 : AO) (n : Nat) (k : Nat) (w : AV) (v3 : AV) (v5 : AV) (u1 : AV) (u2 : AV) (u3 : AV) (zs : Nat → Int) (ca : List AV) (cb : List AV) (b : List Nat) : ASt := mkSt [(0, o0), (1, o1)] 2
noncomputable def vcB11_s1 (vl : AV) (vm : AV) (o0 : AO) (o1 : AO) (n : Nat) (k : Nat) (w : AV) (v3 : AV) (v5 : AV) (u1 : AV) (u2 : AV) (u3 : AV) (zs : Nat → Int) (ca : List AV) (cb : List AV) (b : List Nat) : ASt := mkSt [(0, o0), (1, o1), (2, AO.cells ca true)] 3
noncomputable def vcB11_s2 (vl : AV) (vm : AV) (o0 : AO) (o1 : AO) (n : Nat) (k : Nat) (w : AV) (v3 : AV) (v5 : AV) (u1 : AV) (u2 : AV) (u3 : AV) (zs : Nat → Int) (ca : List AV) (cb : List AV) (b : List Nat) : ASt := mkSt [(0, o0), (1, o1), (2, AO.dead), (3, AO.cells cb true)] 4
noncomputable def vcB11_s3 (vl : AV) (vm : AV) (o0 : AO) (o1 : AO) (n : Nat) (k : Nat) (w : AV) (v3 : AV) (v5 : AV) (u1 : AV) (u2 : AV) (u3 : AV) (zs : Nat → Int) (ca : List AV) (cb : List AV) (b : List Nat) : ASt := mkSt [(0, o0), (1, o1), (2, AO.dead), (3, AO.cells cb true)] 23
theorem vcB11 (vl : AV) (vm : AV) (o0 : AO) (o1 : AO) (n : Nat) (k : Nat) (w : AV) (v3 : AV) (v5 : AV) (u1 : AV) (u2 : AV) (u3 : AV) (zs : Nat → Int) (ca : List AV) (cb : List AV) (b : List Nat) (Q : Exit × AFr × ASt → Prop) (Q2 : Exit × Option AV → Prop) :
  (aBuiltinM E Builtin.len [22] [vl] (vcB11_s0 vl vm o0 o1 n k w v3 v5 u1 u2 u3 zs ca cb b) = some (AV.int IntKind.i64 (Int.ofNat n), vcB11_s0 vl vm o0 o1 n k w v3 v5 u1 u2 u3 zs ca cb b) ∧ ifB (ltF (Int.ofNat n) (Int.ofNat k)) (Q2 (Exit.ret, some (AV.bool true))) (still (vcB11_s0 vl vm o0 o1 n k w v3 v5 u1 u2 u3 zs ca cb b) (aSlice E 22 vl none (some (AV.int IntKind.i64 (Int.ofNat k))) none (vcB11_s0 vl vm o0 o1 n k w v3 v5 u1 u2 u3 zs ca cb b)) = some (w, vcB11_s0 vl vm o0 o1 n k w v3 v5 u1 u2 u3 zs ca cb b) ∧ aBuiltinM E Builtin.append [22, 22] [AV.slice none 0 (Cap.known 0), w] (vcB11_s0 vl vm o0 o1 n k w v3 v5 u1 u2 u3 zs ca cb b) = some (v3, vcB11_s1 vl vm o0 o1 n k w v3 v5 u1 u2 u3 zs ca cb b) ∧ aBuiltinM E Builtin.append [22, 22] [v3, vm] (vcB11_s1 vl vm o0 o1 n k w v3 v5 u1 u2 u3 zs ca cb b) = some (v5, vcB11_s2 vl vm o0 o1 n k w v3 v5 u1 u2 u3 zs ca cb b) ∧ still (vcB11_s3 vl vm o0 o1 n k w v3 v5 u1 u2 u3 zs ca cb b) (aSlice E 22 v5 none (some (AV.int IntKind.i64 (Int.ofNat k))) none (vcB11_s3 vl vm o0 o1 n k w v3 v5 u1 u2 u3 zs ca cb b)) = some (u1, vcB11_s3 vl vm o0 o1 n k w v3 v5 u1 u2 u3 zs ca cb b) ∧ (M E (drawA E) sm 36).call 7 [u1] (vcB11_s3 vl vm o0 o1 n k w v3 v5 u1 u2 u3 zs ca cb b) = some (AV.agg (cl zs), vcB11_s3 vl vm o0 o1 n k w v3 v5 u1 u2 u3 zs ca cb b) ∧ still (vcB11_s3 vl vm o0 o1 n k w v3 v5 u1 u2 u3 zs ca cb b) (aSlice E 22 vl none (some (AV.int IntKind.i64 (Int.ofNat k))) none (vcB11_s3 vl vm o0 o1 n k w v3 v5 u1 u2 u3 zs ca cb b)) = some (u2, vcB11_s3 vl vm o0 o1 n k w v3 v5 u1 u2 u3 zs ca cb b) ∧ (M E (drawA E) sm 36).call 7 [u2] (vcB11_s3 vl vm o0 o1 n k w v3 v5 u1 u2 u3 zs ca cb b) = some (AV.agg (cl zs), vcB11_s3 vl vm o0 o1 n k w v3 v5 u1 u2 u3 zs ca cb b) ∧ still (vcB11_s3 vl vm o0 o1 n k w v3 v5 u1 u2 u3 zs ca cb b) (aBin E BinOp.eql 23 (Operand.tmp 69) (Operand.tmp 73) (AV.agg (cl zs)) (AV.agg (cl zs))) = some (AV.bool true, vcB11_s3 vl vm o0 o1 n k w v3 v5 u1 u2 u3 zs ca cb b) ∧ still (vcB11_s3 vl vm o0 o1 n k w v3 v5 u1 u2 u3 zs ca cb b) (aSlice E 22 v5 (some (AV.int IntKind.i64 (Int.ofNat k))) none none (vcB11_s3 vl vm o0 o1 n k w v3 v5 u1 u2 u3 zs ca cb b)) = some (u3, vcB11_s3 vl vm o0 o1 n k w v3 v5 u1 u2 u3 zs ca cb b) ∧ aConvert E 22 9 u3 (vcB11_s3 vl vm o0 o1 n k w v3 v5 u1 u2 u3 zs ca cb b) = some (AV.str b, vcB11_s3 vl vm o0 o1 n k w v3 v5 u1 u2 u3 zs ca cb b) ∧ aConvert E 22 9 vm (vcB11_s3 vl vm o0 o1 n k w v3 v5 u1 u2 u3 zs ca cb b) = some (AV.str b, vcB11_s3 vl vm o0 o1 n k w v3 v5 u1 u2 u3 zs ca cb b) ∧ still (vcB11_s3 vl vm o0 o1 n k w v3 v5 u1 u2 u3 zs ca cb b) (aBin E BinOp.eql 9 (Operand.tmp 79) (Operand.tmp 81) (AV.str b) (AV.str b)) = some (AV.bool true, vcB11_s3 vl vm o0 o1 n k w v3 v5 u1 u2 u3 zs ca cb b) ∧ holdsO [(fstO (still (vcB11_s3 vl vm o0 o1 n k w v3 v5 u1 u2 u3 zs ca cb b) (aSlice E 22 vl none (some (AV.int IntKind.i64 (Int.ofNat k))) none (vcB11_s3 vl vm o0 o1 n k w v3 v5 u1 u2 u3 zs ca cb b))), u2)] ∧ Q2 (Exit.ret, some (AV.bool true)))) =
  (tB vl vm o0 o1 n k w v3 v5 u1 u2 u3 zs ca cb b).allY (mixQ E Try.f6 [0, 1, 2] [0, 1, 2, 3, 4] Q Q2) (An.b An.nil (An.v (AV.int IntKind.i64 (Int.ofNat n), vcB11_s0 vl vm o0 o1 n k w v3 v5 u1 u2 u3 zs ca cb b) (An.b An.nil (An.v (w, vcB11_s0 vl vm o0 o1 n k w v3 v5 u1 u2 u3 zs ca cb b) (An.v (v3, vcB11_s1 vl vm o0 o1 n k w v3 v5 u1 u2 u3 zs ca cb b) (An.v (v5, vcB11_s2 vl vm o0 o1 n k w v3 v5 u1 u2 u3 zs ca cb b) (An.v (u1, vcB11_s3 vl vm o0 o1 n k w v3 v5 u1 u2 u3 zs ca cb b) (An.v (AV.agg (cl zs), vcB11_s3 vl vm o0 o1 n k w v3 v5 u1 u2 u3 zs ca cb b) (An.v (u2, vcB11_s3 vl vm o0 o1 n k w v3 v5 u1 u2 u3 zs ca cb b) (An.v (AV.agg (cl zs), vcB11_s3 vl vm o0 o1 n k w v3 v5 u1 u2 u3 zs ca cb b) (An.v (AV.bool true, vcB11_s3 vl vm o0 o1 n k w v3 v5 u1 u2 u3 zs ca cb b) (An.b (An.v (u3, vcB11_s3 vl vm o0 o1 n k w v3 v5 u1 u2 u3 zs ca cb b) (An.v (AV.str b, vcB11_s3 vl vm o0 o1 n k w v3 v5 u1 u2 u3 zs ca cb b) (An.v (AV.str b, vcB11_s3 vl vm o0 o1 n k w v3 v5 u1 u2 u3 zs ca cb b) (An.v (AV.bool true, vcB11_s3 vl vm o0 o1 n k w v3 v5 u1 u2 u3 zs ca cb b) (An.b An.nil An.nil))))) An.nil)))))))))))) := by kernel_rfl
theorem vcN (vl : AV) (vm : AV) (o0 : AO) (o1 : AO) (k : Nat) (Q : Exit × AFr × ASt → Prop) (Q2 : Exit × Option AV → Prop) :
  (Q2 (Exit.ret, some (AV.bool true))) =
  (tN vl vm o0 o1 k).allY (mixQ E Try.f6 [0, 1, 2] [0, 1, 2, 3, 4] Q Q2) (An.b An.nil An.nil) := by kernel_rfl

/-! ### The hash, told as 32 numbers -/
def wl (w : Int) : List Int := [wrapF .u8 (shrF w 24), wrapF .u8 (shrF w 16), wrapF .u8 (shrF w 8), wrapF .u8 (shrF w 0)]
def outL (s : S8) : List Int := wl s.a ++ (wl s.b ++ (wl s.c ++ (wl s.d ++ (wl s.e ++ (wl s.f ++ (wl s.g ++ wl s.h))))))
def hx (s : S8) (i : Nat) : Int := (outL s).getD i 0
theorem outI_cl (s : S8) : outI s = .agg (cl (hx s)) := rfl
def cellU (n : Nat) : AV := .int .u8 (.ofNat n)
noncomputable def hs : List Nat → S8
  | [] => sumZ 0 fun _ => 0
  | x :: t => sumZ (t.length + 1) fun j => ((x :: t).map Int.ofNat).getD j 0

theorem bytesZ_U : ∀ l : List Nat, bytesZ (l.map cellU) = some (l.map Int.ofNat)
  | [] => rfl
  | x :: t => by
    show (match bytesZ (t.map cellU) with | some l => some (Int.ofNat x :: l) | none => none) = _
    rw [bytesZ_U t]; rfl
theorem bytesL_U : ∀ l : List Nat, (∀ x, x ∈ l → x < 256) → bytesL (l.map cellU) = some l
  | [], _ => rfl
  | x :: t, h => by
    show (match bytesL (t.map cellU) with | some l => some (x % 256 :: l) | none => none) = _
    rw [bytesL_U t (fun y hy => h y (List.mem_cons_of_mem _ hy))]
    simp only [Nat.mod_eq_of_lt (h x List.mem_cons_self)]
theorem tk {l : List Nat} {o n : Nat} (h : o + n ≤ l.length) : takeL (l.map cellU) o n = some (((l.drop o).take n).map cellU) := by
  unfold takeL
  rw [← List.map_drop, ← List.map_take]
  have : (((l.drop o).take n).map cellU).length = n := by simp; omega
  simp only [this, Nat.beq_refl, cond_true]
theorem tk0 (l : List Nat) : takeL (l.map cellU) 0 l.length = some (l.map cellU) := by
  have := tk (l := l) (o := 0) (n := l.length) (by omega)
  simpa using this

/-- a slice of bytes in a memory -/
inductive SlB (S : ASt) : AV → List Nat → Prop
  | nil {c} : SlB S (.slice none 0 (.known c)) []
  | zero : SlB S .slice0 []
  | row {i o n c cs rw l} : S.h.get i = some (.cells cs rw) → takeL cs o n = some (l.map cellU) → SlB S (.slice (some (i, o)) n c) l

theorem emptyV_eq : sumPart.emptyV = .agg (cl (hx (hs []))) := outI_cl (sumZ 0 fun _ => 0)
theorem hs_cons (x : Nat) (t : List Nat) : outI (sumZ (x :: t).length fun j => ((x :: t).map Int.ofNat).getD j 0) = .agg (cl (hx (hs (x :: t)))) := outI_cl (sumZ (t.length + 1) fun j => ((x :: t).map Int.ofNat).getD j 0)
theorem sum0_at {S : ASt} {v : AV} (h1 : sumSumZ 7 7 [v] S = none) (h2 : sumSum0 7 sumPart.emptyV 7 [v] S = some (sumPart.emptyV, S)) :
    (match sumSumZ 7 7 [v] S with | some r => some r | none => sumSum0 7 sumPart.emptyV 7 [v] S) = some (.agg (cl (hx (hs []))), S) := by
  rw [h1, ← emptyV_eq]; exact h2
theorem call_sum {S : ASt} {v : AV} {l : List Nat} {m : Nat} (h : SlB S v l) (hc : ∀ c, v = .slice none 0 (.known c) → c = 0) (hl : l.length < 1099511627776) : (M E (drawA E) sm (m + 1)).call 7 [v] S = some (.agg (cl (hx (hs l))), S) := by
  have key : sm 7 [v] S = some (.agg (cl (hx (hs l))), S) := by
    show (match sumC [⟨9, [], .bool true⟩] 7 [v] S with | some r => some r | none => (match sumSumZ 7 7 [v] S with | some r => some r | none => sumSum0 7 sumPart.emptyV 7 [v] S)) = _
    have h0 : sumC [⟨9, [], .bool true⟩] 7 [v] S = none := rfl
    rw [h0]
    cases h with
    | @nil c =>
      have := hc c rfl
      subst this
      exact sum0_at (S := S) (v := .slice none 0 (.known 0)) rfl rfl
    | zero => exact sum0_at (S := S) (v := .slice0) rfl rfl
    | @row i o n c cs rw _ h1 h2 =>
      have hn := (takeL_ok h2).1
      simp only [List.length_map] at hn
      subst hn
      cases l with
      | nil => exact sum0_at (S := S) (v := .slice (some (i, o)) 0 c) rfl rfl
      | cons x t =>
        have h3 : sumSumZ 7 7 [.slice (some (i, o)) (x :: t).length c] S = some (outI (sumZ (x :: t).length fun j => ((x :: t).map Int.ofNat).getD j 0), S) := by
          unfold sumSumZ
          simp only [Nat.beq_refl, cond_true, blt_t (show 0 < (x :: t).length by simp), blt_t hl, h1, h2, bytesZ_U]
        rw [h3, hs_cons]
  show (match sm 7 [v] S with | some r => some r | none => callF E (M E (drawA E) sm m).ex 7 [v] S) = _
  rw [key]

theorem conv {S : ASt} {v : AV} {l : List Nat} (h : SlB S v l) (hb : ∀ x, x ∈ l → x < 256) : aConvert E 22 9 v S = some (.str l, S) := by
  cases h with
  | nil => kernel_rfl
  | zero => kernel_rfl
  | @row i o n c cs rw _ h1 h2 =>
    have e : aConvert E 22 9 (.slice (some (i, o)) n c) S = (match S.h.get i with
      | some (.cells cs _) => match takeL cs o n with | some l => (match bytesL l with | some b => some (.str b, S) | none => none) | none => none
      | _ => none) := by kernel_rfl
    rw [e]
    simp only [h1, h2, bytesL_U l hb]

/-! ### Comparisons -/
def cellI (z : Int) : AV := .int .u8 z
theorem eqLs_I : ∀ (xs ys : List Int), xs.length = ys.length → eqLs (fun _ x y => aEq0 (.int .u8) x y) 5 xs.length (xs.map cellI) (ys.map cellI) = some (decide (xs = ys))
  | [], [], _ => rfl
  | [], _ :: _, h => by simp at h
  | _ :: _, [], h => by simp at h
  | x :: xs, y :: ys, h => by
    have ih := eqLs_I xs ys (by simpa using h)
    show (match (some (eqF x y) : Option Bool) with | some true => eqLs (fun _ x y => aEq0 (.int .u8) x y) 5 xs.length (xs.map cellI) (ys.map cellI) | some false => some false | none => none) = _
    rw [ih, eqF_eq]
    by_cases e : x = y
    · subst e; simp
    · have : (x == y) = false := by simpa using e
      rw [this]
      simp [e]
theorem cl_xl (xs : Nat → Int) : cl xs = (xl xs).map cellI := rfl
theorem bin_eq {x y : Operand} (xs ys : Nat → Int) : aBin E .eql 23 x y (.agg (cl xs)) (.agg (cl ys)) = some (.bool (decide (xl xs = xl ys))) := by
  have e : aBin E .eql 23 x y (.agg (cl xs)) (.agg (cl ys)) = (match eqLs (fun _ x y => aEq0 (.int .u8) x y) 5 32 (cl xs) (cl ys) with | some r => some (.bool r) | none => none) := by kernel_rfl
  have h := eqLs_I (xl xs) (xl ys) rfl
  rw [← cl_xl, ← cl_xl] at h
  rw [e, show (32 : Nat) = (xl xs).length from rfl, h]
theorem bin_ne {x y : Operand} (xs ys : Nat → Int) : aBin E .neq 23 x y (.agg (cl xs)) (.agg (cl ys)) = some (.bool (!decide (xl xs = xl ys))) := by
  have e : aBin E .neq 23 x y (.agg (cl xs)) (.agg (cl ys)) = (match eqLs (fun _ x y => aEq0 (.int .u8) x y) 5 32 (cl xs) (cl ys) with | some r => some (.bool (!r)) | none => none) := by kernel_rfl
  have h := eqLs_I (xl xs) (xl ys) rfl
  rw [← cl_xl, ← cl_xl] at h
  rw [e, show (32 : Nat) = (xl xs).length from rfl, h]
theorem bin_str {x y : Operand} (a b : List Nat) : aBin E .eql 9 x y (.str a) (.str b) = some (.bool (a == b)) := by
  show some (AV.bool (lEq a b)) = _
  rw [lEq_eq]

/-! ### The arguments -/
inductive ArgB (i : Nat) : AV → AO → List Nat → Prop
  | nil : ArgB i (.slice none 0 (.known 0)) .dead []
  | zero : ArgB i .slice0 .dead []
  | row {l} : l ≠ [] → ArgB i (.slice (some (i, 0)) l.length (.atl l.length)) (.cells (l.map cellU) false) l

theorem ArgB.sl {i : Nat} {v : AV} {o : AO} {l : List Nat} (h : ArgB i v o l) {S : ASt} (hg : S.h.get i = some o) : SlB S v l ∧ ∀ c, v = .slice none 0 (.known c) → c = 0 := by
  cases h with
  | nil => exact ⟨.nil, fun c h => by cases h; rfl⟩
  | zero => exact ⟨.zero, fun c h => by cases h⟩
  | row h0 => exact ⟨.row hg (tk0 l), fun c h => by cases h⟩
theorem ArgB.nk {i : Nat} {v : AV} {o : AO} {l : List Nat} (h : ArgB i v o l) : ∀ c, v = .slice none 0 (.known c) → c = 0 := by
  intro c e
  cases h with
  | nil => cases e; rfl
  | zero => cases e
  | row h0 => cases e
theorem ArgB.len {i : Nat} {v : AV} {o : AO} {l : List Nat} (h : ArgB i v o l) (S : ASt) : aBuiltinM E .len [22] [v] S = some (.int .i64 (.ofNat l.length), S) := by
  cases h with
  | nil => kernel_rfl
  | zero => kernel_rfl
  | row h0 => kernel_rfl
theorem ArgB.lenA {i : Nat} {v : AV} {o : AO} {l : List Nat} (h : ArgB i v o l) : aLen v = some l.length := by cases h <;> rfl
theorem ArgB.app {i : Nat} {v : AV} {o : AO} {l : List Nat} (h : ArgB i v o l) {S : ASt} (hg : S.h.get i = some o) : aLen v = some l.length ∧ aFirst S 1 l.length v = some (l.map cellU) := by
  cases h with
  | nil => exact ⟨rfl, rfl⟩
  | zero => exact ⟨rfl, rfl⟩
  | row h0 => exact ⟨rfl, first_at hg (by rw [Nat.mul_one]; exact tk0 l)⟩

theorem ble_self (n : Nat) : Nat.ble n n = true := ble_t (Nat.le_refl n)

/-- the slice 'a[:k]' of an argument -/
structure Cut (i : Nat) (o : AO) (l : List Nat) (k : Nat) (v w : AV) : Prop where
  cut : ∀ S, aSlice E 22 v none (some (.int .i64 (.ofNat k))) none S = some w
  sl : ∀ S : ASt, S.h.get i = some o → SlB S w (l.take k) ∧ ∀ c, w = .slice none 0 (.known c) → c = 0
  eq : avEq w w = true
  len : aLen w = some k
  first : ∀ S : ASt, S.h.get i = some o → aFirst S 1 k w = some ((l.take k).map cellU)

theorem ArgB.to {i : Nat} {v : AV} {o : AO} {l : List Nat} (h : ArgB i v o l) {k : Nat} (hk : k ≤ l.length) : ∃ w, Cut i o l k v w := by
  cases h with
  | nil =>
    obtain rfl : k = 0 := by simpa using hk
    exact ⟨.slice none 0 (.known 0), fun S => by kernel_rfl, fun S _ => ⟨.nil, fun c h => by cases h; rfl⟩, rfl, rfl, fun _ _ => rfl⟩
  | zero =>
    obtain rfl : k = 0 := by simpa using hk
    exact ⟨.slice0, fun S => by kernel_rfl, fun S _ => ⟨.zero, fun c h => by cases h⟩, rfl, rfl, fun _ _ => rfl⟩
  | row h0 =>
    have hn : 0 < l.length := List.length_pos_iff.2 h0
    refine ⟨.slice (some (i, 0)) k (.atl l.length), fun S => ?_, fun S hg => ⟨.row hg (tk (o := 0) (by omega)), fun c h => by cases h⟩, ?_, rfl, fun S hg => first_at hg (by rw [Nat.mul_one]; exact tk (o := 0) (by omega))⟩
    · have e : aSlice E 22 (.slice (some (i, 0)) l.length (.atl l.length)) none (some (.int .i64 (.ofNat k))) none S = (match aBounds l.length (Nat.max l.length l.length) none (some k) none with
        | some (l', h, _) => (bif Nat.blt l' (Nat.max l.length l.length) then some (.slice (some (i, 0 + l' * 1)) (h - l') (.atl (Nat.max l.length l.length - l'))) else bif Nat.beq l' 0 then some (.slice (some (i, 0)) 0 (.atl 0)) else some .slice0)
        | none => none) := by kernel_rfl
      have hm : Nat.max l.length l.length = l.length := Nat.max_self _
      rw [e, hm]
      simp only [aBounds, ble_t hk, cond_true, blt_t hn, Nat.zero_mul, Nat.add_zero, Nat.sub_zero]
    · show (locEq (some (i, 0)) (some (i, 0)) && (Nat.beq k k && capEq (.atl l.length) (.atl l.length))) = true
      simp [locEq, capEq]

/-- a row of one's own, or nil -/
inductive OwnB (S : ASt) : AV → List Nat → Prop
  | nil : OwnB S (.slice none 0 (.known 0)) []
  | row {p l} : l ≠ [] → S.h.get p = some (.cells (l.map cellU) true) → OwnB S (.slice (some (p, 0)) l.length (.rest 1)) l

theorem room {S : ASt} {p : Nat} {l : List Nat} (h : S.h.get p = some (.cells (l.map cellU) true)) : aRoom S p 0 1 l.length = l.length := by
  unfold aRoom
  simp only [h]
  show Nat.max l.length (((l.map cellU).length - 0) / 1) = l.length
  rw [Nat.sub_zero, Nat.div_one, List.length_map]
  exact Nat.max_self _

theorem OwnB.to {S : ASt} {v : AV} {l : List Nat} (h : OwnB S v l) {k : Nat} (hk : k ≤ l.length) :
    ∃ u, aSlice E 22 v none (some (.int .i64 (.ofNat k))) none S = some u ∧ SlB S u (l.take k) ∧ ∀ c, u = .slice none 0 (.known c) → c = 0 := by
  cases h with
  | nil =>
    obtain rfl : k = 0 := by simpa using hk
    exact ⟨.slice none 0 (.known 0), by kernel_rfl, .nil, fun c h => by cases h; rfl⟩
  | @row p _ h0 hg =>
    have hn : 0 < l.length := List.length_pos_iff.2 h0
    refine ⟨.slice (some (p, 0)) k (.rest 1), ?_, .row hg (tk (o := 0) (by omega)), fun c h => by cases h⟩
    have e : aSlice E 22 (.slice (some (p, 0)) l.length (.rest 1)) none (some (.int .i64 (.ofNat k))) none S = (match aBounds l.length (aRoom S p 0 1 l.length) none (some k) none with
        | some (l', h, _) => (bif Nat.blt l' (aRoom S p 0 1 l.length) then some (.slice (some (p, 0 + l' * 1)) (h - l') (.rest 1)) else bif Nat.beq l' 0 then some (.slice (some (p, 0)) 0 (.rest 1)) else some .slice0)
        | none => none) := by kernel_rfl
    rw [e, room hg]
    simp only [aBounds, ble_t hk, cond_true, blt_t hn, Nat.zero_mul, Nat.add_zero, Nat.sub_zero]

theorem OwnB.from {S : ASt} {v : AV} {l : List Nat} (h : OwnB S v l) {k : Nat} (hk : k ≤ l.length) :
    ∃ u, aSlice E 22 v (some (.int .i64 (.ofNat k))) none none S = some u ∧ SlB S u (l.drop k) := by
  cases h with
  | nil =>
    obtain rfl : k = 0 := by simpa using hk
    exact ⟨.slice none 0 (.known 0), by kernel_rfl, .nil⟩
  | @row p _ h0 hg =>
    have hn : 0 < l.length := List.length_pos_iff.2 h0
    have e : aSlice E 22 (.slice (some (p, 0)) l.length (.rest 1)) (some (.int .i64 (.ofNat k))) none none S = (match aBounds l.length (aRoom S p 0 1 l.length) (some k) none none with
        | some (l', h, _) => (bif Nat.blt l' (aRoom S p 0 1 l.length) then some (.slice (some (p, 0 + l' * 1)) (h - l') (.rest 1)) else bif Nat.beq l' 0 then some (.slice (some (p, 0)) 0 (.rest 1)) else some .slice0)
        | none => none) := by kernel_rfl
    rw [e, room hg]
    by_cases hlt : k < l.length
    · refine ⟨.slice (some (p, k)) (l.length - k) (.rest 1), ?_, .row hg ?_⟩
      · simp only [aBounds, ble_t hk, cond_true, blt_t hlt, Nat.mul_one, Nat.zero_add]
      · rw [tk (by omega), List.take_of_length_le (by simp)]
    · obtain rfl : k = l.length := by omega
      refine ⟨.slice0, ?_, ?_⟩
      · simp only [aBounds, ble_self, cond_true, blt_f (Nat.le_refl _), cond_false, beq_f (show l.length ≠ 0 by omega)]
      · rw [List.drop_length]; exact .zero

/-! ### Appending -/
theorem ap22 : appT E 22 22 = some (1, 1) := by kernel_rfl
theorem appN0 {S : ASt} {w : AV} (hl : aLen w = some 0) (hf : aFirst S 1 0 w = some []) : aBuiltinM E .append [22, 22] [.slice none 0 (.known 0), w] S = some (.slice none 0 (.known 0), S) := by
  obtain ⟨ei, _, _, h⟩ := append_red (s := .slice none 0 (.known 0)) ap22 hl hf
  rw [h]; rfl
theorem appR0 {S : ASt} {w : AV} {p n : Nat} (hl : aLen w = some 0) (hf : aFirst S 1 0 w = some []) : aBuiltinM E .append [22, 22] [.slice (some (p, 0)) n (.rest 1), w] S = some (.slice (some (p, 0)) n (.rest 1), S) := by
  obtain ⟨ei, _, _, h⟩ := append_red (s := .slice (some (p, 0)) n (.rest 1)) ap22 hl hf
  rw [h]; rfl

/-! ### The end: the row put together -/
theorem avE : ∀ l : List Int, avEq (.agg (l.map cellI)) (.agg (l.map cellI)) = true := fun l => by
  show avsEq (l.map cellI) (l.map cellI) = true
  induction l with
  | nil => rfl
  | cons x t ih =>
    show (avEq (cellI x) (cellI x) && avsEq (t.map cellI) (t.map cellI)) = true
    rw [ih]
    simp [cellI, avEq]
def LawQ (r : Exit × AFr × ASt) : Prop := (r.1 = .normal ∨ r.1 = .ret) ∧ ans (leaveA E Try.f6 r.2.1 r.2.2) = some (.bool true)
def OkA (q : Exit × Option AV) : Prop := (q.1 = .normal ∨ q.1 = .ret) ∧ q.2 = some (.bool true)
theorem okA : OkA (.ret, some (.bool true)) := ⟨.inr rfl, rfl⟩

section
variable {vl vm : AV} {o0 o1 : AO} {a b : List Nat}

theorem tail (A0 : ArgB 0 vl o0 a) (A1 : ArgB 1 vm o1 b) (hb : ∀ x, x ∈ b → x < 256) {k : Nat} (hk : k ≤ a.length) (ha : a.length ≤ 3000) {w v5 : AV} (cw : Cut 0 o0 a k vl w) {S : ASt} (g0 : S.h.get 0 = some o0) (g1 : S.h.get 1 = some o1) (own : OwnB S v5 (a.take k ++ b)) :
    ∃ u1 u3, still S (aSlice E 22 v5 none (some (.int .i64 (.ofNat k))) none S) = some (u1, S) ∧ (M E (drawA E) sm 36).call 7 [u1] S = some (.agg (cl (hx (hs (a.take k)))), S) ∧
      still S (aSlice E 22 vl none (some (.int .i64 (.ofNat k))) none S) = some (w, S) ∧ (M E (drawA E) sm 36).call 7 [w] S = some (.agg (cl (hx (hs (a.take k)))), S) ∧
      still S (aBin E .eql 23 (.tmp 69) (.tmp 73) (.agg (cl (hx (hs (a.take k))))) (.agg (cl (hx (hs (a.take k)))))) = some (.bool true, S) ∧
      still S (aSlice E 22 v5 (some (.int .i64 (.ofNat k))) none none S) = some (u3, S) ∧ aConvert E 22 9 u3 S = some (.str b, S) ∧ aConvert E 22 9 vm S = some (.str b, S) ∧
      still S (aBin E .eql 9 (.tmp 79) (.tmp 81) (.str b) (.str b)) = some (.bool true, S) ∧
      holdsO [(fstO (still S (aSlice E 22 vl none (some (.int .i64 (.ofNat k))) none S)), w)] ∧ OkA (.ret, some (.bool true)) := by
  have lk : (a.take k).length = k := by simp; omega
  obtain ⟨u1, e1, s1, c1⟩ := own.to (k := k) (by rw [List.length_append, lk]; omega)
  obtain ⟨u3, e3, s3⟩ := own.from (k := k) (by rw [List.length_append, lk]; omega)
  rw [List.take_left' lk] at s1
  rw [List.drop_left' lk] at s3
  refine ⟨u1, u3, still_of e1, call_sum s1 c1 (by omega), still_of (cw.cut S), call_sum (cw.sl S g0).1 (cw.sl S g0).2 (by omega), still_of ?_, still_of e3, conv s3 hb, conv (A1.sl g1).1 hb, still_of ?_, ⟨⟨?_, cw.eq⟩, trivial⟩, okA⟩
  · rw [bin_eq]; simp
  · rw [bin_str]; simp
  · rw [still_of (cw.cut S)]; rfl

theorem restK (hE : Env.Ok Try.prog E) (hs : CallsOK Try.prog sm) (A0 : ArgB 0 vl o0 a) (A1 : ArgB 1 vm o1 b) (hb : ∀ x, x ∈ b → x < 256) (ha : a.length ≤ 3000) (hb3 : b.length ≤ 3000) (k : Nat) :
    Trip Try.prog 2 none (dropC 5 c6) (frP vl vm (.ofNat k)) (stW o0 o1) LawQ := by
  have fin : ∀ {y}, ((TM E sm [] fl0 40).ex flB none (dropC 5 c6) (frP vl vm (.ofNat k)) (stW o0 o1)).allY (mixQ E Try.f6 [0, 1, 2] [0, 1, 2, 3, 4] (fun _ => False) OkA) y → Trip Try.prog 2 none (dropC 5 c6) (frP vl vm (.ofNat k)) (stW o0 o1) LawQ :=
    fun h => Trip.runM hE hs h (fun r hr hq => ⟨.inr hr, hq.2⟩) (fun r _ hq => hq.elim)
  by_cases hk : k ≤ a.length
  rotate_left
  · exact fin (Eq.mp (vcB00 vl vm o0 o1 a.length k undefA undefA undefA undefA undefA undefA (fun _ => 0) [] [] [] (fun _ => False) OkA) ⟨A0.len _, ifB_mk (fun _ => okA) fun h => absurd h (by rw [ltF_nn]; simp; omega)⟩)
  obtain ⟨w, cw⟩ := A0.to hk
  have lk : (a.take k).length = k := by simp; omega
  by_cases h0 : k = 0
  · subst h0
    by_cases hb0 : b = []
    · subst hb0
      obtain ⟨u1, u3, T⟩ := tail A0 A1 hb hk ha cw (S := mkSt [(0, o0), (1, o1)] 21) (v5 := .slice none 0 (.known 0)) (by kernel_rfl) (by kernel_rfl) .nil
      exact fin (Eq.mp (vcB00 vl vm o0 o1 a.length 0 w (.slice none 0 (.known 0)) (.slice none 0 (.known 0)) u1 w u3 (hx (shm.hs (a.take 0))) [] [] [] (fun _ => False) OkA)
        ⟨A0.len _, ifB_mk (fun _ => okA) fun _ => ⟨still_of (cw.cut _), appN0 cw.len (cw.first _ (by kernel_rfl)), appN0 A1.lenA (A1.app (by kernel_rfl)).2, T⟩⟩)
    · have hlb : 0 < b.length := List.length_pos_iff.2 hb0
      obtain ⟨u1, u3, T⟩ := tail A0 A1 hb hk ha cw (S := mkSt [(0, o0), (1, o1), (2, .cells (b.map cellU) true)] 22) (v5 := .slice (some (2, 0)) b.length (.rest 1)) (by kernel_rfl) (by kernel_rfl) (.row hb0 (by kernel_rfl))
      exact fin (Eq.mp (vcB01 vl vm o0 o1 a.length 0 w (.slice none 0 (.known 0)) (.slice (some (2, 0)) b.length (.rest 1)) u1 w u3 (hx (shm.hs (a.take 0))) [] (b.map cellU) b (fun _ => False) OkA)
        ⟨A0.len _, ifB_mk (fun _ => okA) fun _ => ⟨still_of (cw.cut _), appN0 cw.len (cw.first _ (by kernel_rfl)), (append_nil_at ap22 A1.lenA (A1.app (by kernel_rfl)).2 hlb (by omega) (by omega)).trans (by kernel_rfl), T⟩⟩)
  · have hk0 : 0 < k := by omega
    have hne : a.take k ≠ [] := fun e => by rw [e] at lk; simp at lk; omega
    by_cases hb0 : b = []
    · subst hb0
      obtain ⟨u1, u3, T⟩ := tail A0 A1 hb hk ha cw (S := mkSt [(0, o0), (1, o1), (2, .cells ((a.take k).map cellU) true)] 22) (v5 := .slice (some (2, 0)) k (.rest 1)) (by kernel_rfl) (by kernel_rfl)
        (by rw [List.append_nil]; have := OwnB.row (S := mkSt [(0, o0), (1, o1), (2, .cells ((a.take k).map cellU) true)] 22) (p := 2) hne (by kernel_rfl); rwa [lk] at this)
      exact fin (Eq.mp (vcB10 vl vm o0 o1 a.length k w (.slice (some (2, 0)) k (.rest 1)) (.slice (some (2, 0)) k (.rest 1)) u1 w u3 (hx (shm.hs (a.take k))) ((a.take k).map cellU) [] [] (fun _ => False) OkA)
        ⟨A0.len _, ifB_mk (fun _ => okA) fun _ => ⟨still_of (cw.cut _), (append_nil_at ap22 cw.len (cw.first _ (by kernel_rfl)) hk0 (by omega) (by omega)).trans (by kernel_rfl), appR0 A1.lenA (A1.app (by kernel_rfl)).2, T⟩⟩)
    · have hlb : 0 < b.length := List.length_pos_iff.2 hb0
      have e2 : (a.take k ++ b).map cellU = (a.take k).map cellU ++ b.map cellU := by simp
      obtain ⟨u1, u3, T⟩ := tail A0 A1 hb hk ha cw (S := mkSt [(0, o0), (1, o1), (2, .dead), (3, .cells ((a.take k).map cellU ++ b.map cellU) true)] 23) (v5 := .slice (some (3, 0)) (k + b.length) (.rest 1)) (by kernel_rfl) (by kernel_rfl)
        (by have := OwnB.row (S := mkSt [(0, o0), (1, o1), (2, .dead), (3, .cells ((a.take k).map cellU ++ b.map cellU) true)] 23) (p := 3) (l := a.take k ++ b) (by simp [hb0]) (by rw [e2]; kernel_rfl); rwa [List.length_append, lk] at this)
      exact fin (Eq.mp (vcB11 vl vm o0 o1 a.length k w (.slice (some (2, 0)) k (.rest 1)) (.slice (some (3, 0)) (k + b.length) (.rest 1)) u1 w u3 (hx (shm.hs (a.take k))) ((a.take k).map cellU) ((a.take k).map cellU ++ b.map cellU) b (fun _ => False) OkA)
        ⟨A0.len _, ifB_mk (fun _ => okA) fun _ => ⟨still_of (cw.cut _), (append_nil_at ap22 cw.len (cw.first _ (by kernel_rfl)) hk0 (by omega) (by omega)).trans (by kernel_rfl),
          (append_grow_at (cs := (a.take k).map cellU) ap22 A1.lenA (A1.app (by kernel_rfl)).2 (by kernel_rfl) (by rw [List.length_map, lk, Nat.mul_one]) (by omega) hlb (by omega) (by omega)).trans (by kernel_rfl), T⟩⟩)

theorem rest (hE : Env.Ok Try.prog E) (hs : CallsOK Try.prog sm) (A0 : ArgB 0 vl o0 a) (A1 : ArgB 1 vm o1 b) (hb : ∀ x, x ∈ b → x < 256) (ha : a.length ≤ 3000) (hb3 : b.length ≤ 3000) : ∀ at_ : Int,
    Trip Try.prog 2 none (dropC 5 c6) (frP vl vm at_) (stW o0 o1) LawQ
  | .ofNat k => restK hE hs A0 A1 hb ha hb3 k
  | .negSucc k => Trip.runM hE hs (Eq.mp (vcN vl vm o0 o1 k (fun _ => False) OkA) okA) (fun r hr hq => ⟨.inr hr, hq.2⟩) (fun r _ hq => hq.elim)

/-! ### The law -/
theorem toW {S : ASt} {at_ : Int} (k0 : KeptV 2 vl) (k1 : KeptV 2 vm) (c0 : Came o0) (c1 : Came o1) (h0 : S.h.get 0 = some o0) (h1 : S.h.get 1 = some o1) : Wk 2 (frP vl vm at_) S (frP vl vm at_) (stW o0 o1) := by
  refine Wk.heldX [0, 1] rfl rfl [0, 1, 2] (frE_xFr (ks := [(0, vl), (1, vm), (2, .int .i64 at_)]) fun p hp => ?_) (StP.came c0 rfl h0 <| StP.came c1 rfl h1 .nil)
  simp only [List.mem_cons, List.not_mem_nil, or_false] at hp
  rcases hp with rfl | rfl | rfl
  · exact ⟨by simp, rfl, k0 [0, 1] rfl⟩
  · exact ⟨by simp, rfl, k1 [0, 1] rfl⟩
  · exact ⟨by simp, rfl, rfl⟩

theorem law (hE : Env.Ok Try.prog E) (hs : CallsOK Try.prog sm) (A0 : ArgB 0 vl o0 a) (A1 : ArgB 1 vm o1 b) (k0 : KeptV 2 vl) (k1 : KeptV 2 vm) (c0 : Came o0) (c1 : Came o1) (hab : ∀ x, x ∈ a → x < 256) (hb : ∀ x, x ∈ b → x < 256) (at_ : Int) :
    Trip Try.prog 2 none c6 (F0 vl vm at_) (stW o0 o1) LawQ := by
  let xs := hx (shm.hs a)
  let ys := hx (shm.hs b)
  have hv : (tA vl vm o0 o1 a.length b.length at_ xs ys a b (a == b) (decide (xl xs = xl ys))).allY
      (mixQ E Try.f6 [0, 1, 2] [0, 1, 2, 3, 4] (fun r => a.length ≤ 3000 ∧ b.length ≤ 3000 ∧ Stops 2 .normal (frP vl vm at_) (stW o0 o1) r) OkA) _ :=
    Eq.mp (vcA vl vm o0 o1 a.length b.length at_ xs ys a b (a == b) (decide (xl xs = xl ys)) _ _) ⟨A0.len _, ifB_mk (fun _ => okA) fun h1 => ⟨A1.len _, ifB_mk (fun _ => okA) fun h2 => by
      have g1 : (a.length : Int) ≤ 3000 := ltF_f h1
      have g2 : (b.length : Int) ≤ 3000 := ltF_f h2
      have n1 : a.length ≤ 3000 := by omega
      have n2 : b.length ≤ 3000 := by omega
      have e0 : ∀ xs : Nat → Int, holdsO [(some (AV.agg (cl xs)), AV.agg (cl xs))] := fun xs => ⟨⟨rfl, by rw [cl_xl]; exact avE _⟩, trivial⟩
      have part : still (vcA_s2 vl vm o0 o1 a.length b.length at_ xs ys a b (a == b) (decide (xl xs = xl ys))) (aBin E BinOp.eql 23 (Operand.tmp 41) (Operand.tmp 42) (AV.agg (cl xs)) (AV.agg (cl ys))) = some (AV.bool (decide (xl xs = xl ys)), vcA_s2 vl vm o0 o1 a.length b.length at_ xs ys a b (a == b) (decide (xl xs = xl ys))) := still_of (bin_eq xs ys)
      have same : ∀ S : ASt, S.h.get 1 = some o1 → decide (xl xs = xl ys) = true → (M E (drawA E) sm 28).call 7 [vm] S = some (.agg (cl xs), S) := fun S hS he => by
        have : xl xs = xl ys := by simpa using he
        rw [cl_xl, this, ← cl_xl]
        exact call_sum (A1.sl hS).1 A1.nk (by omega)
      refine ⟨call_sum (A0.sl (by kernel_rfl)).1 A0.nk (by omega), call_sum (A1.sl (by kernel_rfl)).1 A1.nk (by omega), call_sum (A0.sl (by kernel_rfl)).1 A0.nk (by omega),
        still_of (by rw [bin_ne]; simp), conv (A0.sl (by kernel_rfl)).1 hab, conv (A1.sl (by kernel_rfl)).1 hb, still_of (bin_str a b), ?_⟩
      refine ifB_mk (fun heq => ⟨still_of (bin_ne xs ys), ifB_mk (fun hne => ?_) (fun _ => ⟨part, ifB_mk (fun he => ⟨call_sum (A0.sl (by kernel_rfl)).1 A0.nk (by omega), same _ (by kernel_rfl) he, ifB_mk (fun hne => absurd rfl (neqF_t hne)) (fun _ => ⟨e0 xs, n1, n2, rfl, toW k0 k1 c0 c1 (by kernel_rfl) (by kernel_rfl)⟩)⟩) (fun _ => ⟨e0 xs, n1, n2, rfl, toW k0 k1 c0 c1 (by kernel_rfl) (by kernel_rfl)⟩)⟩)⟩) (fun _ => ⟨part, ifB_mk (fun he => ⟨call_sum (A0.sl (by kernel_rfl)).1 A0.nk (by omega), same _ (by kernel_rfl) he, ifB_mk (fun hne => absurd rfl (neqF_t hne)) (fun _ => ⟨e0 xs, n1, n2, rfl, toW k0 k1 c0 c1 (by kernel_rfl) (by kernel_rfl)⟩)⟩) (fun _ => ⟨e0 xs, n1, n2, rfl, toW k0 k1 c0 c1 (by kernel_rfl) (by kernel_rfl)⟩)⟩)
      have hab' : a = b := by simpa using heq
      have : xl xs = xl ys := by show xl (hx (shm.hs a)) = xl (hx (shm.hs b)); rw [hab']
      simp [this] at hne⟩⟩
  refine Trip.preM hE hs (k := 5) (by kernel_rfl) hv (fun F S hq => ?_) (fun r hr hq => ⟨.inr hr, hq.2⟩) (fun r h1 h2 hq => absurd hq.2.2.1 h1)
  exact Trip.less hq.2.2.2 (rest hE hs A0 A1 hb hq.1 hq.2.1 at_)
end

/-! ### The environment; the chapter's row -/
theorem mixed : Try.prog.follows .mixedOrders = true := by kernel_rfl
theorem fnsOk : AllFn Try.prog fns :=
  ⟨⟨Try.func6, Try.call6⟩, ⟨Try.func9, Try.call9⟩, ⟨Try.func10, Try.call10⟩, ⟨Try.func11, Try.call11⟩, ⟨Try.func12, Try.call12⟩, trivial⟩
theorem Eok : Env.Ok Try.prog E := envEx_ok (xs := []) fnsOk trivial mixed
noncomputable def fns9 : List (Nat × Func) := [(7, Try.f7), (9, Try.f9), (10, Try.f10), (11, Try.f11)]
theorem fns9Ok : AllFn Try.prog fns9 := ⟨⟨Try.func7, Try.call7⟩, ⟨Try.func9, Try.call9⟩, ⟨Try.func10, Try.call10⟩, ⟨Try.func11, Try.call11⟩, trivial⟩
noncomputable def E9 : Env := envEx Try.prog (List.range 65) fns9 []
theorem E9ok : Env.Ok Try.prog E9 := envEx_ok (xs := []) fns9Ok trivial mixed
noncomputable def primesV : AV := .agg [.int .u64 (.ofNat 2), .int .u64 (.ofNat 3), .int .u64 (.ofNat 5), .int .u64 (.ofNat 7), .int .u64 (.ofNat 11), .int .u64 (.ofNat 13), .int .u64 (.ofNat 17), .int .u64 (.ofNat 19), .int .u64 (.ofNat 23), .int .u64 (.ofNat 29), .int .u64 (.ofNat 31), .int .u64 (.ofNat 37), .int .u64 (.ofNat 41), .int .u64 (.ofNat 43), .int .u64 (.ofNat 47), .int .u64 (.ofNat 53), .int .u64 (.ofNat 59), .int .u64 (.ofNat 61), .int .u64 (.ofNat 67), .int .u64 (.ofNat 71), .int .u64 (.ofNat 73), .int .u64 (.ofNat 79), .int .u64 (.ofNat 83), .int .u64 (.ofNat 89), .int .u64 (.ofNat 97), .int .u64 (.ofNat 101), .int .u64 (.ofNat 103), .int .u64 (.ofNat 107), .int .u64 (.ofNat 109), .int .u64 (.ofNat 113), .int .u64 (.ofNat 127), .int .u64 (.ofNat 131), .int .u64 (.ofNat 137), .int .u64 (.ofNat 139), .int .u64 (.ofNat 149), .int .u64 (.ofNat 151), .int .u64 (.ofNat 157), .int .u64 (.ofNat 163), .int .u64 (.ofNat 167), .int .u64 (.ofNat 173), .int .u64 (.ofNat 179), .int .u64 (.ofNat 181), .int .u64 (.ofNat 191), .int .u64 (.ofNat 193), .int .u64 (.ofNat 197), .int .u64 (.ofNat 199), .int .u64 (.ofNat 211), .int .u64 (.ofNat 223), .int .u64 (.ofNat 227), .int .u64 (.ofNat 229), .int .u64 (.ofNat 233), .int .u64 (.ofNat 239), .int .u64 (.ofNat 241), .int .u64 (.ofNat 251), .int .u64 (.ofNat 257), .int .u64 (.ofNat 263), .int .u64 (.ofNat 269), .int .u64 (.ofNat 271), .int .u64 (.ofNat 277), .int .u64 (.ofNat 281), .int .u64 (.ofNat 283), .int .u64 (.ofNat 293), .int .u64 (.ofNat 307), .int .u64 (.ofNat 311)]
noncomputable def sm0 : CallT := orC (sumC (⟨18, [], primesV⟩ :: shaPart.cubes)) shaPart.shaSum
theorem sm0_ok : CallsOK Try.prog sm0 := orC_ok (sumC_ok (l := ⟨18, [], primesV⟩ :: shaPart.cubes) ⟨shaPart.primes_, shaPart.cubesOk⟩) shaPart.shaSum_ok
theorem known : MemoOK Try.prog ⟨9, [], .bool true⟩ := memo_ok (n := 60) E9ok sm0_ok Try.call9 (by kernel_rfl) (by kernel_rfl)
theorem sm_ok : CallsOK Try.prog sm := orC_ok (sumC_ok (l := [⟨9, [], .bool true⟩]) ⟨known, trivial⟩) (orC_ok sumPart.sum_ok sumPart.zero_ok)

/-! ### The call -/
section
open Go.ChangeShapes Go.WideShapes Go.ChangeAt Go.RowKit Go.Deep

theorem own : ownKnob Try.prog.godebug = none := by kernel_rfl
theorem laidOut : laidOutB Try.prog = true := by kernel_rfl
theorem sl22 : sliceT E 22 = some 1 := by kernel_rfl
theorem same_below {W W' : World} (h : Below W.heap.size W W') {p : MemPlace} (hp : p.block < W.heap.size) : W.sameAt W' p := by
  cases p with
  | cell b off => exact h.cell (p := ⟨b, off, none⟩) hp
  | map b => exact h.block b hp

/-- what the two slices are told as -/
def rows2 (r0 r1 : Option (Nat × Nat × List AV)) : Nat → Option (Nat × Nat × List AV)
  | 0 => r0
  | 1 => r1
  | _ => none

theorem refU (l : List Nat) : ∀ c, c ∈ l.map cellU → refsV 0 c := fun c hc => by obtain ⟨x, _, rfl⟩ := List.mem_map.1 hc; simp [cellU, refsV]

theorem walk {W : World} {v0 v1 : Value} {at_ : Int} {a b : List Nat} {vl vm : AV} {o0 o1 : AO} {r0 r1 : Option (Nat × Nat × List AV)} (B0 : ArgB 0 vl o0 a) (B1 : ArgB 1 vm o1 b) (ha : ∀ x, x ∈ a → x < 256) (hb : ∀ x, x ∈ b → x < 256)
    (A0 : ArgAt E W 22 1 0 a.length v0 (a.map cellU) vl o0 r0) (A1 : ArgAt E W 22 1 1 b.length v1 (b.map cellU) vm o1 r1) :
    Calls Try.prog 6 #[v0, v1, .int .i64 at_] W fun e w' => e = .returned (.bool true) ∧ Below W.heap.size W w' := by
  have hgl : GlobOK W := by intro _ _ h; cases h
  have hg : ∀ i, (stW o0 o1).h.get i = if i = 1 then some o1 else if i = 0 then some o0 else none := fun i => by
    show (((T.e : T AO).set D 0 _).set D 1 _).get i = _
    rw [T.get_set, T.get_set, T.get_e]
  have hrow : ∀ i r, rows2 r0 r1 i = some r → r.2.2 ≠ [] ∧ RowAt W r.1 r.2.1 r.2.2 := fun i r h => by
    match i, h with
    | 0, h => exact A0.row r h
    | 1, h => exact A1.row r h
  have hsr := rowsO_ok hgl (n := 2) (rows := rows2 r0 r1) hrow (st := stW o0 o1) rfl (fun i a hi => by
    rw [hg] at hi
    by_cases e1 : i = 1
    · subst e1; simp at hi; subst hi; exact ⟨by omega, A1.obj⟩
    · by_cases e0 : i = 0
      · subst e0; simp at hi; subst hi; exact ⟨by omega, A0.obj⟩
      · simp [e1, e0] at hi)
  have w0 : VR (rowsRen W 2 (rows2 r0 r1)) vl v0 := A0.vr _ fun q hq => rowsRen_at (i := 0) (by omega) hq (A0.row q hq).1 (A0.row q hq).2
  have w1 : VR (rowsRen W 2 (rows2 r0 r1)) vm v1 := A1.vr _ fun q hq => rowsRen_at (i := 1) (by omega) hq (A1.row q hq).1 (A1.row q hq).2
  have hv : VRs (rowsRen W 2 (rows2 r0 r1)) [vl, vm, .int .i64 at_] #[v0, v1, .int .i64 at_] := ⟨rfl, fun i x x' hx hx' => by
    match i with
    | 0 => simp at hx hx'; subst hx; subst hx'; exact w0
    | 1 => simp at hx hx'; subst hx; subst hx'; exact w1
    | 2 => simp at hx hx'; subst hx; subst hx'; exact .int _ _
    | i + 3 => simp at hx⟩
  have hfr : ({ m := putArgs [vl, vm, .int .i64 at_] 0 .e, n := Try.f6.ntmps, defs := [] } : AFr) = F0 vl vm at_ := by kernel_rfl
  refine law_calls Eok (fn := Try.f6) (by kernel_rfl) (c := c6) (by kernel_rfl) (by kernel_rfl) (fun _ h => h) (fun k hk => .inr hk) hsr hv ?_
  rw [hfr]
  exact law Eok sm_ok B0 B1 (A0.kept 2 (by omega)) (A1.kept 2 (by omega)) (A0.came (refU a)) (A1.came (refU b)) ha hb at_

theorem spot_none {W : World} {a : Addr} {v : Value} (h : W.cell? (a.add 0) = some v) : a.spot = none := by
  obtain ⟨b, off, spot⟩ := a
  cases spot with
  | none => rfl
  | some s =>
    unfold World.cell? at h
    simp only [Addr.add, if_true] at h
    split at h
    · simp at h
    · cases h

theorem arg_nil {W : World} (i : Nat) : ∃ (l : List Nat) (vl : AV) (o : AO) (r : Option (Nat × Nat × List AV)), (∀ x, x ∈ l → x < 256) ∧ ArgB i vl o l ∧ ArgAt E W 22 1 i l.length (.slice none 0 0) (l.map cellU) vl o r :=
  ⟨[], _, _, _, (fun x h => by cases h), .nil, ArgAt.mk_nil sl22⟩

theorem arg_bytes {W : World} (j : Nat) {a : Addr} {len cap : Nat} {B : Nat → Nat} (hl : len ≤ cap) (hi : ∀ i, i < len → W.cell? (a.add i) = some (.int .u8 (.ofNat (B i))) ∧ B i < 256) :
    ∃ (l : List Nat) (vl : AV) (o : AO) (r : Option (Nat × Nat × List AV)), (∀ x, x ∈ l → x < 256) ∧ ArgB j vl o l ∧ ArgAt E W 22 1 j l.length (.slice (some a) len cap) (l.map cellU) vl o r := by
  by_cases h0 : len = 0
  · subst h0
    exact ⟨[], _, _, _, (fun x h => by cases h), .zero, ArgAt.mk_zero sl22⟩
  · have hsp := spot_none (hi 0 (by omega)).1
    obtain ⟨b, off, spot⟩ := a
    simp only at hsp
    subst hsp
    have hlen : ((List.range len).map B).length = len := by simp
    have hne : (List.range len).map B ≠ [] := fun e => by rw [e] at hlen; simp at hlen; omega
    have hB := ArgB.row (i := j) hne
    rw [hlen] at hB
    refine ⟨(List.range len).map B, .slice (some (j, 0)) len (.atl len), .cells (((List.range len).map B).map cellU) false, some (b, off, ((List.range len).map B).map cellU), fun x hx => ?_, hB, ?_⟩
    · obtain ⟨i, hi', rfl⟩ := List.mem_map.1 hx
      exact (hi i (by simpa using hi')).2
    rw [hlen]
    have := ArgAt.mk_row (E := E) (W := W) (t := 22) (z := 1) (i := j) (n := len) (b := b) (off := off) (cap := cap) (cs := ((List.range len).map B).map cellU) sl22
      (by intro e; have := congrArg List.length e; simp at this; omega) hl (fun k v hk => ?_)
    · exact this
    · have hk2 : k < len := by
        have := (List.getElem?_eq_some_iff.1 hk).1
        simpa using this
      have hv : v = cellU (B k) := by
        simp [hk2] at hk
        exact hk.symm
      subst hv
      exact ⟨rfl, _, by have := (hi k hk2).1; rw [add_none] at this; exact this, fun ι => .int _ _⟩

theorem arg_any {H : Type} {enc : TypeId × Value → H} {W : World} {base fuel : Nat} {spare : Nat → Bool} {held : Bool} (j : Nat) {v : Value} {d : DataW H} {p : List MemPlace} {a0 : Option Addr} {len cap : Nat} (hv : v = .slice a0 len cap)
    (hf : DataW.trod enc Try.prog W base spare held fuel 22 v.cells.toList = some (d, p)) :
    ∃ (l : List Nat) (vl : AV) (o : AO) (r : Option (Nat × Nat × List AV)), (∀ x, x ∈ l → x < 256) ∧ ArgB j vl o l ∧ ArgAt E W 22 1 j l.length v (l.map cellU) vl o r := by
  subst hv
  rcases open_ints Try.underlying22 Try.underlying5 (by kernel_rfl) hf with ⟨hcs, _⟩ | ⟨a, len', cap', zs, hcs, _, hl, _, hm, _, hi, hw⟩
  · simp [Value.cells] at hcs
    obtain ⟨rfl, rfl, rfl⟩ := hcs
    exact arg_nil j
  · simp [Value.cells] at hcs
    obtain ⟨rfl, rfl, rfl⟩ := hcs
    refine arg_bytes j (B := fun i => (zs.getD i 0).toNat) hl fun i hlt => ?_
    have hlz : i < zs.length := by rw [hm]; split <;> omega
    have h1 := hi i hlz
    have h2 := hw (zs.getD i 0) (by rw [List.getD_eq_getElem?_getD, List.getElem?_eq_getElem hlz]; exact List.getElem_mem hlz)
    have h3 : 0 ≤ zs.getD i 0 ∧ zs.getD i 0 ≤ 255 := by
      simp only [Lit.wf, Bool.and_eq_true, decide_eq_true_eq] at h2
      exact h2
    refine ⟨?_, by omega⟩
    rw [h1]
    congr 2
    show zs.getD i 0 = Int.ofNat (zs.getD i 0).toNat
    have := Int.toNat_of_nonneg h3.1
    exact this.symm

/-! ### The row's step -/
set_option maxRecDepth 100000 in
theorem lifted (os : Os) (started : os.Started) (H : Type) (enc : TypeId × Value → H) :
    ReturnsInHanded {} Try.checked os 6 .any (Rows.shaMeansSpec.pre6 enc Try.prog Try.f6 Rows.shaMeansRow.domain false) (Rows.shaMeansSpec.post enc Try.prog Try.f6 false true false false) := by
  refine returnsInHanded_of_change (C := Try.checked) own started (by kernel_rfl) Try.func6
    (ChangeSpec.witness6 (enc := enc) (C := Try.checked) false ⟨#[], #[.slice none 0 0, .slice none 0 0, .int .i64 0], []⟩ 8 (by kernel_rfl) (by kernel_rfl) (by kernel_rfl) (by kernel_rfl)) ?_
  intro W base args ds gs before hval0 hW hcnd _
  have hval : ∀ (j : Nat) t v, Try.f6.params[j]? = some t → args[j]? = some v → Value.okWide Try.prog W .any base t v := hval0
  have hW' := hW
  obtain ⟨p, q, hA0, hV, rfl, hfz, hnd⟩ := hW
  have hA : DataW.TrodAll enc Try.prog W 0 (fun _ => true) true Try.f6.params.toList args.toList ds p := hA0
  rw [Try.params6] at hA hval
  obtain ⟨v0, v1, v2, d0, d1, d2, p0, p1, p2, rfl, rfl, rfl, h0, h1, h2⟩ := trodAll_three hA
  obtain ⟨rfl, rfl⟩ := trodVars_none hV
  obtain ⟨a0, len, cap, rfl⟩ := okWide_slice Try.underlying22 (hval 0 22 v0 rfl rfl)
  obtain ⟨a1, len1, cap1, rfl⟩ := okWide_slice Try.underlying22 (hval 1 22 v1 rfl rfl)
  obtain ⟨nd, rfl, rfl, rfl, wnd⟩ := open_int Try.underlying3 (hval 2 3 v2 rfl rfl) h2
  have h0k := h0
  have h1k := h1
  obtain ⟨fu0, hf0⟩ := h0
  obtain ⟨fu1, hf1⟩ := h1
  clear hA0 hval0
  simp only [List.append_nil] at hW'
  have hlt : ∀ x ∈ p0 ++ p1, x.block < W.heap.size := fun x hx => by simpa using hW'.lt x hx
  obtain ⟨l, vl, o0, r0, L0, B0, A0⟩ := arg_any 0 rfl hf0
  obtain ⟨ms, vm, o1, r1, L1, B1, A1⟩ := arg_any 1 rfl hf1
  refine (walk B0 B1 L0 L1 A0 A1 (at_ := nd)).mono fun e W' ⟨he, bel⟩ => ?_
  subst he
  have ARG0 : DataW.Trod enc Try.prog W' 0 (fun x => decide (x < W.heap.size)) true 22 (.slice a0 len cap) d0 p0 :=
    WideElems.Trod_stays laidOut (by kernel_rfl) (of_decide_eq_true (by kernel_rfl)) h0k (fun x hx => same_below bel (hlt x (List.mem_append_left _ hx))) (fun x hx => by simpa using hlt x (List.mem_append_left _ hx))
  have ARG1 : DataW.Trod enc Try.prog W' 0 (fun x => decide (x < W.heap.size)) true 22 (.slice a1 len1 cap1) d1 p1 :=
    WideElems.Trod_stays laidOut (by kernel_rfl) (of_decide_eq_true (by kernel_rfl)) h1k (fun x hx => same_below bel (hlt x (List.mem_append_right _ hx))) (fun x hx => by simpa using hlt x (List.mem_append_right _ hx))
  exact ⟨_, rfl, _, _, _, [], _, [], hW', trodAll_mk1 (shut_bool Try.underlying4 _), trodAll_mk3 ARG0 ARG1 (shut_int Try.underlying3 wnd), rfl, bel.frame _, fun h => by cases h⟩

theorem over : Rows.shaMeansRow.holds Try.pinned (OpenSpec.ofChange Rows.shaMeansSpec) :=
  OpenClaim.holds_of_wide 6 Try.f6 rfl rfl rfl rfl rfl rfl rfl ⟨rfl, rfl, rfl, rfl, rfl⟩ rfl rfl rfl rfl rfl (by kernel_rfl) Try.func6 (by kernel_rfl)
    (of_decide_eq_true (by kernel_rfl)) (by unfold Func.isWrapper; first | (rw [if_pos (by decide +kernel)]; kernel_rfl) | (rw [if_neg (by decide +kernel)]; exact ⟨rfl, rfl⟩))
    (fun os started H enc _ => lifted os started H enc)

/-- THE STATEMENT -/
theorem proved : Rows.ShaMeansSaid := over
end
#print axioms proved
end Go.Proofs.Ytgijfohgffhllaa.shm
