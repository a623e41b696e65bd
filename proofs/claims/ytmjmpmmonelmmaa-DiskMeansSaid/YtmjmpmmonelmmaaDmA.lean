/-
  OWN WORK, A PART: an abstract machine for the program's text that the kernel can run, and the proof that it is sound: what it answers is what the program answers; contracts of functions by it. No condition.
-/
import Derived.Test.YtmjmpmmonelmmaaRows
import Derived.Test.YtmjmpmmonelmmaaWaF
import Derived.KernelRfl
section
open Go Go.Ax Go.Proofs
namespace Go.Proofs.Ytmjmpmmonelmmaa.dsk
set_option linter.unusedVariables false
def fl0 : Fl := ⟨[], [], [], []⟩
noncomputable def EK : Env := envEx Try.prog [0, 3, 4, 5, 22, 23, 26, 27, 28, 30, 31, 32, 33, 34, 35, 41, 46, 47, 48] [(11, Try.f11), (19, Try.f19), (52, Try.f52), (55, Try.f55), (56, Try.f56), (57, Try.f57), (18, Try.f18), (20, Try.f20), (58, Try.f58), (13, Try.f13), (15, Try.f15), (16, Try.f16), (17, Try.f17), (12, Try.f12), (14, Try.f14), (10, Try.f10), (54, Try.f54), (3, Try.f3)] []
def dK (l m n : Nat) : AO := .cells [.slice (some (l, 0)) n (.known n), .map (some m), .int .i64 (.ofNat 0), .bool false, .bool false, .bool false] true
def nI (n : Nat) : AV := .int .i64 (.ofNat n)
def pO (i : Nat) : AV := .ptr (some (i, 0))
def sB (r k : Nat) : AV := .slice (some (r, 0)) k (.rest 256)
noncomputable def flK : List (Nat × Fl) := [(19, ⟨[5, 20, 25, 27, 29, 31, 4095, 4094], [10, 14, 28], [], []⟩), (55, ⟨[11, 17, 19, 25], [7], [], []⟩), (52, ⟨[9], [], [], []⟩), (57, ⟨[7, 12, 26, 30, 4095], [], [], []⟩), (58, ⟨[7], [], [], []⟩)]
-- Write
noncomputable def tWn (d l m n i : Nat) (B : List Nat) (V : AV) (S S1 S2 S3 S4 : ASt) : Tr (AV × ASt) := (TM EK noSum flK fl0 60).call 19 [pO d, nI i, .agg (bl B)] S
noncomputable def tWo (d l m n i r k : Nat) (B : List Nat) (V W : AV) (S S1 S2 S3 S4 S5 : ASt) : Tr (AV × ASt) := (TM EK noSum flK fl0 60).call 19 [pO d, nI i, .agg (bl B)] S
noncomputable def tWx (d l m n : Nat) (i : Int) (B : List Nat) (S S1 : ASt) : Tr (AV × ASt) := (TM EK noSum flK fl0 60).call 19 [pO d, .int .i64 i, .agg (bl B)] S
noncomputable def tWy (d l m n : Nat) (i : Int) (B : List Nat) (S S1 : ASt) : Tr (AV × ASt) := (TM EK noSum flK fl0 60).call 19 [pO d, .int .i64 i, .agg (bl B)] S
-- now
noncomputable def cN : Code := Option.getD Try.f56.body .skip
noncomputable def flN : Fl := ⟨[4, 9, 11, 14, 18, 19, 20, 24, 26, 27, 4095], [], [], []⟩
noncomputable def tNn (d l m n i : Nat) (B : List Nat) (S S1 S2 : ASt) : Tr (Exit × AFr × ASt) := (TM EK noSum [] fl0 60).ex flN none cN { m := putArgs [pO d, nI i] 0 .e, n := 28, defs := [] } S
noncomputable def tNo (d l m n i r k : Nat) (B : List Nat) (S S1 S2 : ASt) : Tr (Exit × AFr × ASt) := (TM EK noSum [] fl0 60).ex flN none cN { m := putArgs [pO d, nI i] 0 .e, n := 28, defs := [] } S
theorem vcWn (d : Nat) (l : Nat) (m : Nat) (n : Nat) (i : Nat) (B : List Nat) (V : AV) (S : ASt) (S1 : ASt) (S2 : ASt) (S3 : ASt) (S4 : ASt) (Q : AV × ASt → Prop) :
  (aBox (AV.agg (bl B)) S = some (AV.ptr (some (S.next, 0)), S1) ∧ aLoad EK 46 (AV.ptr (some (d, 1))) S1 = some (AV.map (some m), S1) ∧ still S1 (aBin EK BinOp.lss 3 (Operand.tmp 10) (Operand.const (Value.int IntKind.i64 0)) (AV.int IntKind.i64 (Int.ofNat i)) (AV.int IntKind.i64 (Int.ofNat 0))) = some (AV.bool false, S1) ∧ aLoad EK 30 (AV.ptr (some (d, 0))) S1 = some (AV.slice (some (l, 0)) n (Cap.known n), S1) ∧ still S1 (aBin EK BinOp.geq 3 (Operand.tmp 13) (Operand.tmp 18) (AV.int IntKind.i64 (Int.ofNat i)) (AV.int IntKind.i64 (Int.ofNat n))) = some (AV.bool false, S1) ∧ aLoad EK 4 (AV.ptr (some (d, 5))) S1 = some (AV.bool false, S1) ∧ aLoad EK 4 (AV.ptr (some (d, 4))) S1 = some (AV.bool false, S1) ∧ aLoad EK 4 (AV.ptr (some (d, 3))) S1 = some (AV.bool false, S1) ∧ Option.map (fun s => (undefA, s)) (aStore EK 4 (AV.ptr (some (d, 4))) (AV.bool false) S1) = some (AV.tuple [], S2) ∧ aLoad EK 4 (AV.ptr (some (d, 4))) S2 = some (AV.bool false, S2) ∧ aLoad EK 4 (AV.ptr (some (d, 3))) S2 = some (AV.bool false, S2) ∧ aLoad EK 46 (AV.ptr (some (d, 1))) (ASt.mk S2.h (S2.next + 16)) = some (AV.map (some m), ASt.mk S2.h (S2.next + 16)) ∧ aLoad EK 46 (AV.ptr (some (d, 1))) (ASt.mk S2.h (S2.next + 16)) = some (AV.map (some m), ASt.mk S2.h (S2.next + 16)) ∧ still (ASt.mk S2.h (S2.next + 16)) (aLookup EK 46 (AV.map (some m)) (AV.int IntKind.i64 (Int.ofNat i)) false (ASt.mk S2.h (S2.next + 16))) = some (AV.slice none 0 (Cap.known 0), ASt.mk S2.h (S2.next + 16)) ∧ aLoad EK 33 (AV.ptr (some (S.next, 0))) (ASt.mk S2.h (S2.next + 16)) = some (AV.agg (bl B), ASt.mk S2.h (S2.next + 16)) ∧ aBuiltinM EK Builtin.append [30, 30] [AV.slice none 0 (Cap.known 0), AV.slice (some (S2.next + 13, 0)) 1 (Cap.known 1)] (ASt.put (ASt.mk S2.h (S2.next + 16)) (S2.next + 13) (AO.cells (bl B) true)) = some (V, S3) ∧ Option.map (fun s => (undefA, s)) (aMapUpdate EK 46 (AV.map (some m)) (AV.int IntKind.i64 (Int.ofNat i)) V S3) = some (AV.tuple [], S4) ∧ ((T.get (ASt.mk S2.h (S2.next + 16)).h (S2.next + 13) = none ∧ True) ∧ (True ∧ True) ∧ (True ∧ True) ∧ True) ∧ holdsO [(fstO (aLoad EK 46 (AV.ptr (some (d, 1))) (ASt.mk S2.h (S2.next + 16))), AV.map (some m)), (fstO (aLoad EK 46 (AV.ptr (some (d, 1))) S3), AV.map (some m)), (fstO (aLoad EK 33 (AV.ptr (some (S.next, 0))) (ASt.mk S2.h (S2.next + 16))), AV.agg (bl B))] ∧ Q (AV.int IntKind.i64 (Int.ofNat 0), S4)) =
  (tWn d l m n i B V S S1 S2 S3 S4).allY (Q) (An.v (AV.ptr (some (S.next, 0)), S1) (An.v (AV.map (some m), S1) (An.v (AV.bool false, S1) (An.v (AV.slice (some (l, 0)) n (Cap.known n), S1) (An.v (AV.bool false, S1) (An.v (AV.bool false, S1) (An.v (AV.bool false, S1) (An.v (AV.bool false, S1) (An.v (AV.tuple [], S2) (An.v (AV.bool false, S2) (An.v (AV.bool false, S2) (An.v (AV.map (some m), ASt.mk S2.h (S2.next + 16)) (An.v (AV.map (some m), ASt.mk S2.h (S2.next + 16)) (An.v (AV.slice none 0 (Cap.known 0), ASt.mk S2.h (S2.next + 16)) (An.v (AV.agg (bl B), ASt.mk S2.h (S2.next + 16)) (An.v (V, S3) (An.v (AV.tuple [], S4) An.nil))))))))))))))))) := by kernel_rfl
theorem vcWo (d : Nat) (l : Nat) (m : Nat) (n : Nat) (i : Nat) (r : Nat) (k : Nat) (B : List Nat) (V : AV) (W : AV) (S : ASt) (S1 : ASt) (S2 : ASt) (S3 : ASt) (S4 : ASt) (S5 : ASt) (Q : AV × ASt → Prop) :
  (aBox (AV.agg (bl B)) S = some (AV.ptr (some (S.next, 0)), S1) ∧ aLoad EK 46 (AV.ptr (some (d, 1))) S1 = some (AV.map (some m), S1) ∧ still S1 (aBin EK BinOp.lss 3 (Operand.tmp 10) (Operand.const (Value.int IntKind.i64 0)) (AV.int IntKind.i64 (Int.ofNat i)) (AV.int IntKind.i64 (Int.ofNat 0))) = some (AV.bool false, S1) ∧ aLoad EK 30 (AV.ptr (some (d, 0))) S1 = some (AV.slice (some (l, 0)) n (Cap.known n), S1) ∧ still S1 (aBin EK BinOp.geq 3 (Operand.tmp 13) (Operand.tmp 18) (AV.int IntKind.i64 (Int.ofNat i)) (AV.int IntKind.i64 (Int.ofNat n))) = some (AV.bool false, S1) ∧ aLoad EK 4 (AV.ptr (some (d, 5))) S1 = some (AV.bool false, S1) ∧ aLoad EK 4 (AV.ptr (some (d, 4))) S1 = some (AV.bool false, S1) ∧ aLoad EK 4 (AV.ptr (some (d, 3))) S1 = some (AV.bool false, S1) ∧ Option.map (fun s => (undefA, s)) (aStore EK 4 (AV.ptr (some (d, 4))) (AV.bool false) S1) = some (AV.tuple [], S2) ∧ aLoad EK 4 (AV.ptr (some (d, 4))) S2 = some (AV.bool false, S2) ∧ aLoad EK 4 (AV.ptr (some (d, 3))) S2 = some (AV.bool false, S2) ∧ aLoad EK 46 (AV.ptr (some (d, 1))) (ASt.mk S2.h (S2.next + 16)) = some (AV.map (some m), ASt.mk S2.h (S2.next + 16)) ∧ aLoad EK 46 (AV.ptr (some (d, 1))) (ASt.mk S2.h (S2.next + 16)) = some (AV.map (some m), ASt.mk S2.h (S2.next + 16)) ∧ still (ASt.mk S2.h (S2.next + 16)) (aLookup EK 46 (AV.map (some m)) (AV.int IntKind.i64 (Int.ofNat i)) false (ASt.mk S2.h (S2.next + 16))) = some (AV.slice (some (r, 0)) k (Cap.rest 256), ASt.mk S2.h (S2.next + 16)) ∧ aBuiltinM EK Builtin.append [30, 30] [AV.slice (some (S2.next + 16, 0)) 0 (Cap.known 0), AV.slice (some (r, 0)) k (Cap.rest 256)] (ASt.put (ASt.mk S2.h (S2.next + 16 + 1)) (S2.next + 16) (AO.cells [] true)) = some (W, S3) ∧ aLoad EK 33 (AV.ptr (some (S.next, 0))) S3 = some (AV.agg (bl B), S3) ∧ aBuiltinM EK Builtin.append [30, 30] [W, AV.slice (some (S2.next + 13, 0)) 1 (Cap.known 1)] (ASt.put S3 (S2.next + 13) (AO.cells (bl B) true)) = some (V, S4) ∧ Option.map (fun s => (undefA, s)) (aMapUpdate EK 46 (AV.map (some m)) (AV.int IntKind.i64 (Int.ofNat i)) V S4) = some (AV.tuple [], S5) ∧ ((T.get S3.h (S2.next + 13) = none ∧ True) ∧ (True ∧ True) ∧ (True ∧ True) ∧ True) ∧ holdsO [(fstO (aLoad EK 46 (AV.ptr (some (d, 1))) S3), AV.map (some m)), (fstO (aLoad EK 46 (AV.ptr (some (d, 1))) S4), AV.map (some m)), (fstO (aLoad EK 33 (AV.ptr (some (S.next, 0))) (ASt.mk S2.h (S2.next + 16))), AV.agg (bl B))] ∧ Q (AV.int IntKind.i64 (Int.ofNat 0), S5)) =
  (tWo d l m n i r k B V W S S1 S2 S3 S4 S5).allY (Q) (An.v (AV.ptr (some (S.next, 0)), S1) (An.v (AV.map (some m), S1) (An.v (AV.bool false, S1) (An.v (AV.slice (some (l, 0)) n (Cap.known n), S1) (An.v (AV.bool false, S1) (An.v (AV.bool false, S1) (An.v (AV.bool false, S1) (An.v (AV.bool false, S1) (An.v (AV.tuple [], S2) (An.v (AV.bool false, S2) (An.v (AV.bool false, S2) (An.v (AV.map (some m), ASt.mk S2.h (S2.next + 16)) (An.v (AV.map (some m), ASt.mk S2.h (S2.next + 16)) (An.v (AV.slice (some (r, 0)) k (Cap.rest 256), ASt.mk S2.h (S2.next + 16)) (An.v (W, S3) (An.v (AV.agg (bl B), S3) (An.v (V, S4) (An.v (AV.tuple [], S5) An.nil)))))))))))))))))) := by kernel_rfl
theorem vcWx (d : Nat) (l : Nat) (m : Nat) (n : Nat) (i : Int) (B : List Nat) (S : ASt) (S1 : ASt) (Q : AV × ASt → Prop) :
  (aBox (AV.agg (bl B)) S = some (AV.ptr (some (S.next, 0)), S1) ∧ aLoad EK 46 (AV.ptr (some (d, 1))) S1 = some (AV.map (some m), S1) ∧ still S1 (aBin EK BinOp.lss 3 (Operand.tmp 10) (Operand.const (Value.int IntKind.i64 0)) (AV.int IntKind.i64 i) (AV.int IntKind.i64 (Int.ofNat 0))) = some (AV.bool true, S1) ∧ Q (AV.int IntKind.i64 (Int.ofNat 2), S1)) =
  (tWx d l m n i B S S1).allY (Q) (An.v (AV.ptr (some (S.next, 0)), S1) (An.v (AV.map (some m), S1) (An.v (AV.bool true, S1) An.nil))) := by kernel_rfl
theorem vcWy (d : Nat) (l : Nat) (m : Nat) (n : Nat) (i : Int) (B : List Nat) (S : ASt) (S1 : ASt) (Q : AV × ASt → Prop) :
  (aBox (AV.agg (bl B)) S = some (AV.ptr (some (S.next, 0)), S1) ∧ aLoad EK 46 (AV.ptr (some (d, 1))) S1 = some (AV.map (some m), S1) ∧ still S1 (aBin EK BinOp.lss 3 (Operand.tmp 10) (Operand.const (Value.int IntKind.i64 0)) (AV.int IntKind.i64 i) (AV.int IntKind.i64 (Int.ofNat 0))) = some (AV.bool false, S1) ∧ aLoad EK 30 (AV.ptr (some (d, 0))) S1 = some (AV.slice (some (l, 0)) n (Cap.known n), S1) ∧ still S1 (aBin EK BinOp.geq 3 (Operand.tmp 13) (Operand.tmp 18) (AV.int IntKind.i64 i) (AV.int IntKind.i64 (Int.ofNat n))) = some (AV.bool true, S1) ∧ Q (AV.int IntKind.i64 (Int.ofNat 2), S1)) =
  (tWy d l m n i B S S1).allY (Q) (An.v (AV.ptr (some (S.next, 0)), S1) (An.v (AV.map (some m), S1) (An.v (AV.bool false, S1) (An.v (AV.slice (some (l, 0)) n (Cap.known n), S1) (An.v (AV.bool true, S1) An.nil))))) := by kernel_rfl
theorem vcNn (d : Nat) (l : Nat) (m : Nat) (n : Nat) (i : Nat) (B : List Nat) (S : ASt) (S1 : ASt) (S2 : ASt) (Q : Exit × AFr × ASt → Prop) :
  (aAlloc EK 33 S = some (AV.ptr (some (S.next, 0)), S1) ∧ aLoad EK 46 (AV.ptr (some (d, 1))) S1 = some (AV.map (some m), S1) ∧ still S1 (aLookup EK 46 (AV.map (some m)) (AV.int IntKind.i64 (Int.ofNat i)) false S1) = some (AV.slice none 0 (Cap.known 0), S1) ∧ still S1 (aBin EK BinOp.gtr 3 (Operand.tmp 13) (Operand.const (Value.int IntKind.i64 0)) (AV.int IntKind.i64 (Int.ofNat 0)) (AV.int IntKind.i64 (Int.ofNat 0))) = some (AV.bool false, S1) ∧ aLoad EK 30 (AV.ptr (some (d, 0))) S1 = some (AV.slice (some (l, 0)) n (Cap.known n), S1) ∧ still S1 (aIndexAddr EK 30 (AV.slice (some (l, 0)) n (Cap.known n)) (AV.int IntKind.i64 (Int.ofNat i))) = some (AV.ptr (some (l, i * 256)), S1) ∧ aLoad EK 33 (AV.ptr (some (l, i * 256))) S1 = some (AV.agg (bl B), S1) ∧ Option.map (fun s => (undefA, s)) (aStore EK 33 (AV.ptr (some (S.next, 0))) (AV.agg (bl B)) S1) = some (AV.tuple [], S2) ∧ Q (Exit.ret, xFr [(4, AV.ptr (some (S.next, 0)))] 28, S2)) =
  (tNn d l m n i B S S1 S2).allY (fun r => Q (rawR [4] r)) (An.v (AV.ptr (some (S.next, 0)), S1) (An.v (AV.map (some m), S1) (An.v (AV.slice none 0 (Cap.known 0), S1) (An.v (AV.bool false, S1) (An.v (AV.slice (some (l, 0)) n (Cap.known n), S1) (An.v (AV.ptr (some (l, i * 256)), S1) (An.v (AV.agg (bl B), S1) (An.v (AV.tuple [], S2) An.nil)))))))) := by kernel_rfl
theorem vcNo (d : Nat) (l : Nat) (m : Nat) (n : Nat) (i : Nat) (r : Nat) (k : Nat) (B : List Nat) (S : ASt) (S1 : ASt) (S2 : ASt) (Q : Exit × AFr × ASt → Prop) :
  (aAlloc EK 33 S = some (AV.ptr (some (S.next, 0)), S1) ∧ aLoad EK 46 (AV.ptr (some (d, 1))) S1 = some (AV.map (some m), S1) ∧ still S1 (aLookup EK 46 (AV.map (some m)) (AV.int IntKind.i64 (Int.ofNat i)) false S1) = some (AV.slice (some (r, 0)) (k + 1) (Cap.rest 256), S1) ∧ still S1 (aBin EK BinOp.gtr 3 (Operand.tmp 13) (Operand.const (Value.int IntKind.i64 0)) (AV.int IntKind.i64 (Int.ofNat (k + 1))) (AV.int IntKind.i64 (Int.ofNat 0))) = some (AV.bool true, S1) ∧ still S1 (aBin EK BinOp.sub 3 (Operand.tmp 17) (Operand.const (Value.int IntKind.i64 1)) (AV.int IntKind.i64 (Int.ofNat (k + 1))) (AV.int IntKind.i64 (Int.ofNat 1))) = some (AV.int IntKind.i64 (Int.ofNat k), S1) ∧ still S1 (aIndexAddr EK 30 (AV.slice (some (r, 0)) (k + 1) (Cap.rest 256)) (AV.int IntKind.i64 (Int.ofNat k))) = some (AV.ptr (some (r, k * 256)), S1) ∧ aLoad EK 33 (AV.ptr (some (r, k * 256))) S1 = some (AV.agg (bl B), S1) ∧ Option.map (fun s => (undefA, s)) (aStore EK 33 (AV.ptr (some (S.next, 0))) (AV.agg (bl B)) S1) = some (AV.tuple [], S2) ∧ Q (Exit.ret, xFr [(4, AV.ptr (some (S.next, 0)))] 28, S2)) =
  (tNo d l m n i r k B S S1 S2).allY (fun r => Q (rawR [4] r)) (An.v (AV.ptr (some (S.next, 0)), S1) (An.v (AV.map (some m), S1) (An.v (AV.slice (some (r, 0)) (k + 1) (Cap.rest 256), S1) (An.v (AV.bool true, S1) (An.v (AV.int IntKind.i64 (Int.ofNat k), S1) (An.v (AV.ptr (some (r, k * 256)), S1) (An.v (AV.agg (bl B), S1) (An.v (AV.tuple [], S2) An.nil)))))))) := by kernel_rfl
end Go.Proofs.Ytmjmpmmonelmmaa.dsk
end

section
open Go Go.Ax Go.Proofs
namespace Go.Proofs.Ytmjmpmmonelmmaa.dsk
set_option linter.unusedVariables false
theorem EKok : Env.Ok Try.prog EK := envEx_ok (xs := []) ⟨⟨Try.func11, Try.call11⟩, ⟨Try.func19, Try.call19⟩, ⟨Try.func52, Try.call52⟩, ⟨Try.func55, Try.call55⟩, ⟨Try.func56, Try.call56⟩, ⟨Try.func57, Try.call57⟩, ⟨Try.func18, Try.call18⟩, ⟨Try.func20, Try.call20⟩, ⟨Try.func58, Try.call58⟩, ⟨Try.func13, Try.call13⟩, ⟨Try.func15, Try.call15⟩, ⟨Try.func16, Try.call16⟩, ⟨Try.func17, Try.call17⟩, ⟨Try.func12, Try.call12⟩, ⟨Try.func14, Try.call14⟩, ⟨Try.func10, Try.call10⟩, ⟨Try.func54, Try.call54⟩, ⟨Try.func3, Try.call3⟩, trivial⟩ trivial (by kernel_rfl)
def rowB (l : List (List Nat)) : List AV := l.flatMap bl
structure En where
  k : Nat
  r : Nat
  vs : List (List Nat)
  b : Nat
def entO (e : En) : AV × AV × Nat := (nI e.k, sB e.r e.vs.length, e.b)
def ents (es : List En) : Ents := es.map entO
def vers (es : List En) (i : Nat) : List (List Nat) := es.flatMap fun e => if e.k = i then e.vs else []
structure Disk (S : ASt) (d l m : Nat) (las : List (List Nat)) (es : List En) (ck : Nat) : Prop where
  hd : S.h.get d = some (dK l m las.length)
  hl : S.h.get l = some (.cells (rowB las) true)
  hm : S.h.get m = some (.map (ents es) ck)
  row : ∀ e, e ∈ es → S.h.get e.r = some (.cells (rowB e.vs) true) ∧ e.vs ≠ [] ∧ e.k < las.length ∧ e.b < ck ∧ e.r ≠ l
  keys : (es.map (·.k)).Nodup
  borns : (es.map (·.b)).Nodup
  most : las.length < 100000
theorem rowB_len (l : List (List Nat)) : (rowB l).length = l.length * 256 := fm_len bl_len l
theorem rowB_app (a b : List (List Nat)) : rowB (a ++ b) = rowB a ++ rowB b := List.flatMap_append
theorem rowB_one (b : List Nat) : rowB [b] = bl b := by unfold rowB; simp
theorem vers_nil {es : List En} {i : Nat} (h : ∀ e, e ∈ es → e.k ≠ i) : vers es i = [] := by
  unfold vers
  rw [List.flatMap_eq_nil_iff]
  intro e he
  rw [if_neg (h e he)]
theorem vers_app (a b : List En) (i : Nat) : vers (a ++ b) i = vers a i ++ vers b i := List.flatMap_append
theorem vers_one (e : En) (i : Nat) : vers [e] i = if e.k = i then e.vs else [] := by unfold vers; simp
theorem vers_cons (e : En) (es : List En) (i : Nat) : vers (e :: es) i = (if e.k = i then e.vs else []) ++ vers es i := rfl
theorem ce_m : cellT EK 46 = true := by kernel_rfl
theorem ce_s : cellT EK 30 = true := by kernel_rfl
theorem ce_b : cellT EK 4 = true := by kernel_rfl
theorem ag_b : aggT EK 33 = some 256 := by kernel_rfl
theorem sl_s : sliceT EK 30 = some 256 := by kernel_rfl
theorem ap_s : appT EK 30 30 = some (256, 256) := by kernel_rfl
theorem on_b : oneT EK 4 = true := by kernel_rfl
theorem sz_b : sizT EK 33 = some 256 := by kernel_rfl
noncomputable def mapS (E : Env) (t : TypeId) : Bool :=
  match E.ty.get t with
  | some ti => (match ti.desc with
    | .map key elem => (match E.ty.get key with
      | some tk => (match tk.desc with
        | .int _ => (match E.ty.get elem with | some te => (match te.zero with | some (.slice none 0 (.known 0)) => true | _ => false) | none => false)
        | _ => false)
      | none => false)
    | _ => false)
  | none => false
theorem mapS_at {E : Env} {t : TypeId} (h : mapS E t = true) : ∃ ti key elem tk kt te, E.ty.get t = some ti ∧ ti.desc = .map key elem ∧ E.ty.get key = some tk ∧ tk.desc = .int kt ∧ E.ty.get elem = some te ∧ te.zero = some (.slice none 0 (.known 0)) := by
  unfold mapS at h
  split at h
  · rename_i ti h1
    split at h
    · rename_i key elem h2
      split at h
      · rename_i tk h3
        split at h
        · rename_i kt h4
          split at h
          · rename_i te h5
            split at h
            · rename_i h6
              exact ⟨ti, key, elem, tk, kt, te, h1, h2, h3, h4, h5, h6⟩
            · cases h
          · cases h
        · cases h
      · cases h
    · cases h
  · cases h
theorem mS : mapS EK 46 = true := by kernel_rfl
theorem keyEq_n {kt : IntKind} {a b : Nat} : keyEq (.int kt) (nI a) (nI b) = some (decide (a = b)) := by
  show (bif kEq .i64 .i64 then some (eqF (.ofNat a) (.ofNat b)) else none) = _
  have h : eqF (.ofNat a) (.ofNat b) = decide (a = b) := by
    rw [eqF_eq]
    by_cases e : a = b
    · subst e; simp
    · have : ¬ (Int.ofNat a = Int.ofNat b) := fun x => e (Int.ofNat.inj x)
      rw [decide_eq_false e]
      simp only [Int.ofNat_eq_natCast] at this ⊢
      simpa using this
  rw [h]; rfl
theorem findM_none {kt : IntKind} {i : Nat} : ∀ {es : List En} {j : Nat}, (∀ e, e ∈ es → e.k ≠ i) → findM (.int kt) (nI i) (ents es) j = some none
  | [], _, _ => rfl
  | e :: es, j, h => by
    show (match keyEq (.int kt) (nI i) (nI e.k) with | some true => some (some (j, sB e.r e.vs.length)) | some false => findM (.int kt) (nI i) (ents es) (j + 1) | none => none) = _
    rw [keyEq_n, decide_eq_false (fun x => h e List.mem_cons_self x.symm)]
    exact findM_none fun a ha => h a (List.mem_cons_of_mem _ ha)
theorem findM_some {kt : IntKind} {i : Nat} {e : En} {C : List En} (he : e.k = i) : ∀ {A : List En} {j : Nat}, (∀ e, e ∈ A → e.k ≠ i) → findM (.int kt) (nI i) (ents (A ++ e :: C)) j = some (some (j + A.length, sB e.r e.vs.length))
  | [], j, _ => by
    show (match keyEq (.int kt) (nI i) (nI e.k) with | some true => some (some (j, sB e.r e.vs.length)) | some false => findM (.int kt) (nI i) (ents C) (j + 1) | none => none) = _
    rw [keyEq_n, decide_eq_true he.symm]; rfl
  | a :: A, j, h => by
    show (match keyEq (.int kt) (nI i) (nI a.k) with | some true => some (some (j, sB a.r a.vs.length)) | some false => findM (.int kt) (nI i) (ents (A ++ e :: C)) (j + 1) | none => none) = _
    rw [keyEq_n, decide_eq_false (fun x => h a List.mem_cons_self x.symm)]
    have := findM_some (kt := kt) (C := C) he (A := A) (j := j + 1) fun a ha => h a (List.mem_cons_of_mem _ ha)
    rw [show j + (a :: A).length = j + 1 + A.length by simp; omega]
    exact this
section
variable {S : ASt} {d l m n i ck : Nat} {es : List En}
theorem look_new (hS : S.h.get m = some (.map (ents es) ck)) (h : ∀ e, e ∈ es → e.k ≠ i) : still S (aLookup EK 46 (.map (some m)) (nI i) false S) = some (.slice none 0 (.known 0), S) := by
  obtain ⟨ti, key, elem, tk, kt, te, h1, h2, h3, h4, h5, h6⟩ := mapS_at mS
  refine still_of ?_
  simp only [aLookup, h1, h2, h3, mapAt, hS, h4, findM_none h, h5, h6, plainKey, cond_true, cond_false]
theorem look_old {A C : List En} {e : En} (hS : S.h.get m = some (.map (ents (A ++ e :: C)) ck)) (he : e.k = i) (h : ∀ e, e ∈ A → e.k ≠ i) : still S (aLookup EK 46 (.map (some m)) (nI i) false S) = some (sB e.r e.vs.length, S) := by
  obtain ⟨ti, key, elem, tk, kt, te, h1, h2, h3, h4, h5, h6⟩ := mapS_at mS
  refine still_of ?_
  simp only [aLookup, h1, h2, h3, mapAt, hS, h4, findM_some he h, plainKey, cond_true, cond_false]
theorem upd_new {v : AV} (hS : S.h.get m = some (.map (ents es) ck)) (h : ∀ e, e ∈ es → e.k ≠ i) : aMapUpdate EK 46 (.map (some m)) (nI i) v S = some (S.put m (.map (ents es ++ [(nI i, v, ck)]) (ck + 1))) := by
  obtain ⟨ti, key, elem, tk, kt, te, h1, h2, h3, h4, h5, h6⟩ := mapS_at mS
  simp only [aMapUpdate, h1, h2, h3, h4, plainKey, cond_true, hS, findM_none h]
theorem modify_mid {α : Type} {x : α} {C : List α} {f : α → α} : ∀ A : List α, (A ++ x :: C).modify A.length f = A ++ f x :: C
  | [] => rfl
  | a :: A => by
    show a :: (A ++ x :: C).modify A.length f = _
    rw [modify_mid A]; rfl
theorem setNth_mid {A C : List En} {e : En} {k v : AV} : setNth (ents (A ++ e :: C)) (0 + A.length) k v = ents A ++ (k, v, e.b) :: ents C := by
  unfold setNth ents
  rw [List.map_append, List.map_cons, Nat.zero_add]
  have : A.length = (A.map entO).length := by simp
  rw [this, modify_mid]; rfl
theorem upd_old {A C : List En} {e : En} {v : AV} (hS : S.h.get m = some (.map (ents (A ++ e :: C)) ck)) (he : e.k = i) (h : ∀ e, e ∈ A → e.k ≠ i) : aMapUpdate EK 46 (.map (some m)) (nI i) v S = some (S.put m (.map (ents A ++ (nI i, v, e.b) :: ents C) ck)) := by
  obtain ⟨ti, key, elem, tk, kt, te, h1, h2, h3, h4, h5, h6⟩ := mapS_at mS
  simp only [aMapUpdate, h1, h2, h3, h4, plainKey, cond_true, hS, findM_some he h, setNth_mid]
theorem ld_m (h : S.h.get d = some (dK l m n)) : aLoad EK 46 (.ptr (some (d, 1))) S = some (.map (some m), S) := load_at ce_m h rfl
theorem ld_s (h : S.h.get d = some (dK l m n)) : aLoad EK 30 (.ptr (some (d, 0))) S = some (.slice (some (l, 0)) n (.known n), S) := load_at ce_s h rfl
theorem ld_3 (h : S.h.get d = some (dK l m n)) : aLoad EK 4 (.ptr (some (d, 3))) S = some (.bool false, S) := load_at ce_b h rfl
theorem ld_4 (h : S.h.get d = some (dK l m n)) : aLoad EK 4 (.ptr (some (d, 4))) S = some (.bool false, S) := load_at ce_b h rfl
theorem ld_5 (h : S.h.get d = some (dK l m n)) : aLoad EK 4 (.ptr (some (d, 5))) S = some (.bool false, S) := load_at ce_b h rfl
theorem st_4 (h : S.h.get d = some (dK l m n)) : aStore EK 4 (.ptr (some (d, 4))) (.bool false) S = some (S.put d (dK l m n)) := store_at (j := 4) on_b h (by show 4 < 6; decide) rfl
theorem ld_blk {k : Nat} {b : List Nat} {rw : Bool} (h : S.h.get k = some (.cells (bl b) rw)) : aLoad EK 33 (pO k) S = some (.agg (bl b), S) := load_agg ag_b h takeL_bl
theorem ld_row {k j : Nat} {L : List (List Nat)} {b : List Nat} {rw : Bool} (h : S.h.get k = some (.cells (rowB L) rw)) (hj : L[j]? = some b) : aLoad EK 33 (.ptr (some (k, j * 256))) S = some (.agg (bl b), S) := load_agg ag_b h (fm_one bl_len hj)
theorem lssI {z : Int} : still S (aBin EK .lss 3 (.tmp 10) (.const (.int .i64 0)) (.int .i64 z) (.int .i64 (.ofNat 0))) = some (.bool (ltF z (.ofNat 0)), S) := still_of (by kernel_rfl)
theorem geqI {z : Int} : still S (aBin EK .geq 3 (.tmp 13) (.tmp 18) (.int .i64 z) (.int .i64 (.ofNat n))) = some (.bool (!ltF z (.ofNat n)), S) := still_of (by kernel_rfl)
theorem lssN : still S (aBin EK .lss 3 (.tmp 10) (.const (.int .i64 0)) (.int .i64 (.ofNat i)) (.int .i64 (.ofNat 0))) = some (.bool false, S) := by rw [lssI, ltF_nn]; rfl
theorem geqN (h : i < n) : still S (aBin EK .geq 3 (.tmp 13) (.tmp 18) (.int .i64 (.ofNat i)) (.int .i64 (.ofNat n))) = some (.bool false, S) := by rw [geqI, ltF_nn, decide_eq_true h]; rfl
end
theorem write_at {S : ASt} {d l m ck i : Nat} {las : List (List Nat)} {es : List En} {b : List Nat} (hD : Disk S d l m las es ck) (ht : Tidy S) (hi : i < las.length) (hv : (vers es i).length < 1000000) :
    ∃ S' es' ck', Call1 Try.prog 19 [pO d, nI i, .agg (bl b)] S (nI 0, S') ∧ Disk S' d l m las es' ck' ∧ Tidy S' ∧ S.next ≤ S'.next ∧ (∀ k, k < S.next → k ≠ m → S'.h.get k = S.h.get k) ∧ (∀ j, vers es' j = if j = i then vers es i ++ [b] else vers es j) ∧ ∀ a, a ∈ es' → (∃ e, e ∈ es ∧ e.r = a.r) ∨ S.next ≤ a.r := by
  have hdl := ht.lt hD.hd
  have hll := ht.lt hD.hl
  have hml := ht.lt hD.hm
  have hdm : d ≠ m := ne_get hD.hd hD.hm (by simp [dK])
  have hlm : l ≠ m := ne_get hD.hl hD.hm (by simp)
  obtain ⟨S1, e1⟩ : ∃ X, X = S.add (.cells (bl b) true) := ⟨_, rfl⟩
  have g1 : ∀ k, k ≠ S.next → S1.h.get k = S.h.get k := fun k hk => by rw [e1, add_ne hk]
  have a1 : S1.h.get S.next = some (.cells (bl b) true) := by rw [e1]; exact add_at
  have n1 : S1.next = S.next + 1 := by rw [e1]; rfl
  have t1 : Tidy S1 := by rw [e1]; exact ht.add
  have d1 : S1.h.get d = some (dK l m las.length) := by rw [g1 d (by omega)]; exact hD.hd
  obtain ⟨S2, e2⟩ : ∃ X, X = S1.put d (dK l m las.length) := ⟨_, rfl⟩
  have g2 : ∀ k, S2.h.get k = S1.h.get k := fun k => by
    by_cases e : k = d
    · subst e; rw [e2, put_at, d1]
    · rw [e2, put_ne e]
  have n2 : S2.next = S.next + 1 := by rw [e2]; exact n1
  have t2 : Tidy S2 := by rw [e2]; exact t1.put (by omega)
  have d2 : S2.h.get d = some (dK l m las.length) := by rw [g2]; exact d1
  have q2 : ∀ k, k < S.next → S2.h.get k = S.h.get k := fun k hk => by rw [g2, g1 k (by omega)]
  have a2 : S2.h.get S.next = some (.cells (bl b) true) := by rw [g2]; exact a1
  obtain ⟨R, eR⟩ : ∃ X, X = ASt.mk S2.h (S2.next + 16) := ⟨_, rfl⟩
  have gR : ∀ k, R.h.get k = S2.h.get k := fun k => by rw [eR]
  have nR : R.next = S.next + 17 := by rw [eR]; show S2.next + 16 = _; omega
  have tR : Tidy R := by rw [eR]; exact t2.mk (by omega)
  have dR : R.h.get d = some (dK l m las.length) := by rw [gR]; exact d2
  have slot : R.h.get (S2.next + 13) = none := by rw [gR]; exact t2 _ (by omega)
  by_cases hex : ∃ e, e ∈ es ∧ e.k = i
  · obtain ⟨e, he, hek⟩ := hex
    obtain ⟨A, C, hes⟩ := List.append_of_mem he
    have hnd := hD.keys
    rw [hes, List.map_append, List.map_cons, List.nodup_append] at hnd
    have hA : ∀ a, a ∈ A → a.k ≠ i := fun a ha x => hnd.2.2 a.k (List.mem_map_of_mem ha) e.k List.mem_cons_self (by rw [x, hek])
    have hC : ∀ a, a ∈ C → a.k ≠ i := fun a ha x => (List.nodup_cons.1 hnd.2.1).1 (by rw [hek, ← x]; exact List.mem_map_of_mem ha)
    obtain ⟨r1, r2, r3, r4, r5⟩ := hD.row e he
    have hrl := ht.lt r1
    have hver : vers es i = e.vs := by rw [hes, vers_app, vers_cons, vers_nil hA, vers_nil hC, if_pos hek]; simp
    rw [hver] at hv
    have h0 : 0 < e.vs.length := List.length_pos_iff.2 r2
    -- the copy
    obtain ⟨R1, eR1⟩ : ∃ X, X = ASt.put (ASt.mk S2.h (S2.next + 16 + 1)) (S2.next + 16) (.cells [] true) := ⟨_, rfl⟩
    have gR1 : ∀ k, k ≠ S2.next + 16 → R1.h.get k = S2.h.get k := fun k hk => by rw [eR1, put_ne hk]
    have aR1 : R1.h.get (S2.next + 16) = some (.cells [] true) := by rw [eR1]; exact put_at
    have nR1 : R1.next = S.next + 18 := by rw [eR1]; show S2.next + 16 + 1 = _; omega
    have tR1 : Tidy R1 := by rw [eR1]; exact (t2.mk (by omega)).put (by show _ < S2.next + 16 + 1; omega)
    have hf1 : aFirst R1 256 e.vs.length (sB e.r e.vs.length) = some (rowB e.vs) := first_at (by rw [gR1 e.r (by omega), q2 e.r hrl]; exact r1) (fm_all bl_len)
    have ap1 := append_zero_at (sT := 30) (xT := 30) (o := 0) ap_s (x := sB e.r e.vs.length) rfl hf1 aR1 h0 (by omega) (by omega)
    obtain ⟨S3, e3⟩ : ∃ X, X = R1.add (.cells (rowB e.vs) true) := ⟨_, rfl⟩
    rw [← e3] at ap1
    have g3 : ∀ k, k ≠ R1.next → S3.h.get k = R1.h.get k := fun k hk => by rw [e3, add_ne hk]
    have a3 : S3.h.get R1.next = some (.cells (rowB e.vs) true) := by rw [e3]; exact add_at
    have n3 : S3.next = S.next + 19 := by rw [e3, add_next]; omega
    have t3 : Tidy S3 := by rw [e3]; exact tR1.add
    have q3 : ∀ k, k < S.next + 1 → S3.h.get k = S2.h.get k := fun k hk => by rw [g3 k (by omega), gR1 k (by omega)]
    -- one more
    obtain ⟨X, eX⟩ : ∃ X, X = ASt.put S3 (S2.next + 13) (.cells (bl b) true) := ⟨_, rfl⟩
    have gX : ∀ k, k ≠ S2.next + 13 → X.h.get k = S3.h.get k := fun k hk => by rw [eX, put_ne hk]
    have aX : X.h.get (S2.next + 13) = some (.cells (bl b) true) := by rw [eX]; exact put_at
    have nX : X.next = S.next + 19 := by rw [eX]; exact n3
    have tX : Tidy X := by rw [eX]; exact t3.put (by omega)
    have hf2 : aFirst X 256 1 (.slice (some (S2.next + 13, 0)) 1 (.known 1)) = some (bl b) := first_at aX takeL_bl
    have ap2 := append_grow_at (sT := 30) (xT := 30) (l := e.vs.length) ap_s (x := .slice (some (S2.next + 13, 0)) 1 (.known 1)) rfl hf2 (i := R1.next) (cs := rowB e.vs) (by rw [gX _ (by omega)]; exact a3) (rowB_len _) (by decide) (by decide) (by omega) (by omega)
    obtain ⟨S4, e4⟩ : ∃ Y, Y = (X.put R1.next .dead).add (.cells (rowB e.vs ++ bl b) true) := ⟨_, rfl⟩
    rw [← e4] at ap2
    have g4 : ∀ k, k ≠ X.next → k ≠ R1.next → S4.h.get k = X.h.get k := fun k hk hk2 => by rw [e4, add_ne (S := X.put R1.next .dead) hk, put_ne hk2]
    have a4 : S4.h.get X.next = some (.cells (rowB e.vs ++ bl b) true) := by rw [e4]; exact add_at
    have n4 : S4.next = S.next + 20 := by rw [e4, add_next, put_next]; omega
    have t4 : Tidy S4 := by rw [e4]; exact (tX.put (by omega)).add
    have q4 : ∀ k, k < S.next + 1 → S4.h.get k = S2.h.get k := fun k hk => by rw [g4 k (by omega) (by omega), gX k (by omega), q3 k hk]
    have hm4 : S4.h.get m = some (.map (ents (A ++ e :: C)) ck) := by rw [q4 m (by omega), q2 m hml, ← hes]; exact hD.hm
    have hm2 : S2.h.get m = some (.map (ents (A ++ e :: C)) ck) := by rw [q2 m hml, ← hes]; exact hD.hm
    obtain ⟨S5, e5⟩ : ∃ Y, Y = S4.put m (.map (ents A ++ (nI i, sB X.next (e.vs.length + 1), e.b) :: ents C) ck) := ⟨_, rfl⟩
    have g5 : ∀ k, k ≠ m → S5.h.get k = S4.h.get k := fun k hk => by rw [e5, put_ne hk]
    have up := upd_old (v := sB X.next (e.vs.length + 1)) hm4 hek hA
    rw [← e5] at up
    have d3 : S3.h.get d = some (dK l m las.length) := by rw [q3 d (by omega)]; exact d2
    have d4 : S4.h.get d = some (dK l m las.length) := by rw [q4 d (by omega)]; exact d2
    have fr : ∀ k, k < S.next → k ≠ m → S5.h.get k = S.h.get k := fun k hk hkm => by rw [g5 k hkm, q4 k (by omega), q2 k hk]
    refine ⟨S5, A ++ ⟨i, X.next, e.vs ++ [b], e.b⟩ :: C, ck, ?_, ⟨by rw [fr d hdl hdm]; exact hD.hd, by rw [fr l hll hlm]; exact hD.hl, ?_, fun a ha => ?_, ?_, ?_, hD.most⟩, by rw [e5]; exact t4.put (by omega), by rw [e5, put_next]; omega, fr, fun j => ?_, fun a ha => ?_⟩
    · refine Call1.of_tm EKok noSum_ok (Eq.mp (vcWo d l m las.length i e.r e.vs.length b (sB X.next (e.vs.length + 1)) (sB R1.next e.vs.length) S S1 S2 S3 S4 S5 (fun q => q = (nI 0, S5))) ?_)
      refine ⟨by rw [e1]; rfl, ld_m d1, lssN, ld_s d1, geqN hi, ld_5 d1, ld_4 d1, ld_3 d1, okS_of (by rw [e2]; exact st_4 d1), ld_4 d2, ld_3 d2, ?_⟩
      rw [← eR, ← eX, ← eR1]
      exact ⟨ld_m dR, ld_m dR, look_old (by rw [gR]; exact hm2) hek hA, ap1, ld_blk (by rw [q3 _ (by omega)]; exact a2), ap2, okS_of up, ⟨⟨by rw [g3 _ (by omega), gR1 _ (by omega)]; exact t2 _ (by omega), trivial⟩, ⟨trivial, trivial⟩, ⟨trivial, trivial⟩, trivial⟩,
        holds_cons (fstO_of (ld_m d3)) (holds_cons (fstO_of (ld_m d4)) (holds_cons (fstO_of (ld_blk (by rw [gR]; exact a2))) trivial)), rfl⟩
    · rw [e5, put_at]
      congr 2
      simp [ents, entO]
    · have old : ∀ a, a ∈ es → a.k ≠ i → S5.h.get a.r = some (.cells (rowB a.vs) true) ∧ a.vs ≠ [] ∧ a.k < las.length ∧ a.b < ck ∧ a.r ≠ l := fun a ha _ => by
        obtain ⟨p1, p2, p3, p4, p5⟩ := hD.row a ha
        exact ⟨by rw [fr a.r (ht.lt p1) (ne_get p1 hD.hm (by simp))]; exact p1, p2, p3, p4, p5⟩
      rcases List.mem_append.1 ha with h | h
      · exact old a (by rw [hes]; exact List.mem_append_left _ h) (hA a h)
      · rcases List.mem_cons.1 h with rfl | h
        · refine ⟨?_, by simp, hi, r4, by show X.next ≠ l; omega⟩
          show S5.h.get X.next = some (.cells (rowB (e.vs ++ [b])) true)
          rw [g5 _ (by omega), a4, rowB_app, rowB_one]
        · exact old a (by rw [hes]; exact List.mem_append_right _ (List.mem_cons_of_mem _ h)) (hC a h)
    · have := hD.keys
      rw [hes] at this
      simpa [hek] using this
    · have := hD.borns
      rw [hes] at this
      simpa using this
    · rw [vers_app, vers_cons, hes, vers_app, vers_app, vers_cons, vers_cons, hek]
      by_cases hj : j = i
      · subst hj
        rw [vers_nil hA, vers_nil hC]
        simp
      · rw [if_neg hj, if_neg (fun x => hj x.symm), if_neg (fun x => hj x.symm)]
    · rcases List.mem_append.1 ha with h | h
      · exact .inl ⟨a, by rw [hes]; exact List.mem_append_left _ h, rfl⟩
      · rcases List.mem_cons.1 h with rfl | h
        · exact .inr (by show S.next ≤ X.next; omega)
        · exact .inl ⟨a, by rw [hes]; exact List.mem_append_right _ (List.mem_cons_of_mem _ h), rfl⟩
  · have hno : ∀ e, e ∈ es → e.k ≠ i := fun e he x => hex ⟨e, he, x⟩
    obtain ⟨X, eX⟩ : ∃ X, X = R.put (S2.next + 13) (.cells (bl b) true) := ⟨_, rfl⟩
    have gX : ∀ k, k ≠ S2.next + 13 → X.h.get k = S2.h.get k := fun k hk => by rw [eX, put_ne hk, gR]
    have aX : X.h.get (S2.next + 13) = some (.cells (bl b) true) := by rw [eX]; exact put_at
    have nX : X.next = S.next + 17 := by rw [eX]; exact nR
    have tX : Tidy X := by rw [eX]; exact tR.put (by omega)
    have hf2 : aFirst X 256 1 (.slice (some (S2.next + 13, 0)) 1 (.known 1)) = some (bl b) := first_at aX takeL_bl
    have ap2 := append_nil_at (sT := 30) (xT := 30) ap_s (x := .slice (some (S2.next + 13, 0)) 1 (.known 1)) rfl hf2 (by decide) (by decide) (by decide)
    obtain ⟨S3, e3⟩ : ∃ Y, Y = X.add (.cells (bl b) true) := ⟨_, rfl⟩
    rw [← e3] at ap2
    have g3 : ∀ k, k ≠ X.next → S3.h.get k = X.h.get k := fun k hk => by rw [e3, add_ne hk]
    have a3 : S3.h.get X.next = some (.cells (bl b) true) := by rw [e3]; exact add_at
    have n3 : S3.next = S.next + 18 := by rw [e3, add_next]; omega
    have t3 : Tidy S3 := by rw [e3]; exact tX.add
    have q3 : ∀ k, k < S.next + 1 → S3.h.get k = S2.h.get k := fun k hk => by rw [g3 k (by omega), gX k (by omega)]
    have hm2 : S2.h.get m = some (.map (ents es) ck) := by rw [q2 m hml]; exact hD.hm
    have hm3 : S3.h.get m = some (.map (ents es) ck) := by rw [q3 m (by omega)]; exact hm2
    obtain ⟨S4, e4⟩ : ∃ Y, Y = S3.put m (.map (ents es ++ [(nI i, sB X.next 1, ck)]) (ck + 1)) := ⟨_, rfl⟩
    have up := upd_new (i := i) (v := sB X.next 1) hm3 hno
    rw [← e4] at up
    have g4 : ∀ k, k ≠ m → S4.h.get k = S3.h.get k := fun k hk => by rw [e4, put_ne hk]
    have d3 : S3.h.get d = some (dK l m las.length) := by rw [q3 d (by omega)]; exact d2
    have fr : ∀ k, k < S.next → k ≠ m → S4.h.get k = S.h.get k := fun k hk hkm => by rw [g4 k hkm, q3 k (by omega), q2 k hk]
    refine ⟨S4, es ++ [⟨i, X.next, [b], ck⟩], ck + 1, ?_, ⟨by rw [fr d hdl hdm]; exact hD.hd, by rw [fr l hll hlm]; exact hD.hl, ?_, fun a ha => ?_, ?_, ?_, hD.most⟩, by rw [e4]; exact t3.put (by omega), by rw [e4, put_next]; omega, fr, fun j => ?_, fun a ha => ?_⟩
    · refine Call1.of_tm EKok noSum_ok (Eq.mp (vcWn d l m las.length i b (sB X.next 1) S S1 S2 S3 S4 (fun q => q = (nI 0, S4))) ?_)
      refine ⟨by rw [e1]; rfl, ld_m d1, lssN, ld_s d1, geqN hi, ld_5 d1, ld_4 d1, ld_3 d1, okS_of (by rw [e2]; exact st_4 d1), ld_4 d2, ld_3 d2, ?_⟩
      rw [← eR, ← eX]
      exact ⟨ld_m dR, ld_m dR, look_new (by rw [gR]; exact hm2) hno, ld_blk (by rw [gR]; exact a2), ap2, okS_of up, ⟨⟨slot, trivial⟩, ⟨trivial, trivial⟩, ⟨trivial, trivial⟩, trivial⟩,
        holds_cons (fstO_of (ld_m dR)) (holds_cons (fstO_of (ld_m d3)) (holds_cons (fstO_of (ld_blk (by rw [gR]; exact a2))) trivial)), rfl⟩
    · rw [e4, put_at]
      congr 2
      simp [ents, entO]
    · rcases List.mem_append.1 ha with h | h
      · obtain ⟨p1, p2, p3, p4, p5⟩ := hD.row a h
        exact ⟨by rw [fr a.r (ht.lt p1) (ne_get p1 hD.hm (by simp))]; exact p1, p2, p3, by omega, p5⟩
      · simp only [List.mem_cons, List.not_mem_nil, or_false] at h
        subst h
        refine ⟨?_, by simp, hi, by show ck < ck + 1; omega, by show X.next ≠ l; omega⟩
        show S4.h.get X.next = some (.cells (rowB [b]) true)
        rw [g4 _ (by omega), a3, rowB_one]
    · rw [List.map_append, List.nodup_append]
      refine ⟨hD.keys, by simp, fun x hx y hy => ?_⟩
      simp at hy
      obtain ⟨a, ha, rfl⟩ := List.mem_map.1 hx
      subst hy
      exact hno a ha
    · rw [List.map_append, List.nodup_append]
      refine ⟨hD.borns, by simp, fun x hx y hy => ?_⟩
      simp at hy
      obtain ⟨a, ha, rfl⟩ := List.mem_map.1 hx
      subst hy
      have := (hD.row a ha).2.2.2.1
      omega
    · rw [vers_app, vers_one]
      by_cases hj : j = i
      · subst hj
        rw [vers_nil hno]; simp
      · rw [if_neg (fun x => hj x.symm), if_neg hj, List.append_nil]
    · rcases List.mem_append.1 ha with h | h
      · exact .inl ⟨a, h, rfl⟩
      · simp only [List.mem_cons, List.not_mem_nil, or_false] at h
        subst h
        exact .inr (by show S.next ≤ X.next; omega)
end Go.Proofs.Ytmjmpmmonelmmaa.dsk
end

section
open Go Go.Ax Go.Proofs
namespace Go.Proofs.Ytmjmpmmonelmmaa.dsk
set_option linter.unusedVariables false
def cnT : Code → Code
  | .cond _ t _ => t
  | _ => .skip
-- Read
noncomputable def cRd : Code := Option.getD Try.f18.body .skip
noncomputable def tRd (q : CallT) (d l m n i : Nat) (B : List Nat) (S S1 S2 S3 : ASt) : Tr (Exit × AFr × ASt) := (TM EK (onlyC [56] q) flK fl0 60).ex ⟨[4, 16, 4095], [9], [], []⟩ none cRd { m := putArgs [pO d, nI i] 0 .e, n := 17, defs := [] } S
-- New
noncomputable def tNw (n : Nat) (R : AV) (S S1 S2 S3 : ASt) : Tr (AV × ASt) := (TM EK noSum [(11, ⟨[5, 8, 11, 12, 14], [], [], []⟩)] fl0 60).call 11 [nI n] S
-- Flush
noncomputable def cF : Code := Option.getD Try.f20.body .skip
noncomputable def P3 : Code := seqL (dropC 2 cF)
noncomputable def BG : Code := cnT (seqR P3)
noncomputable def LB : Code := lopB (blkB (seqR (seqL BG)))
noncomputable def frF (d i : Nat) : AFr := xFr [(0, pO d), (3, nI 0), (17, pO i)] 36
noncomputable def tF1 (d l m n : Nat) (S S2 : ASt) : Tr (Exit × AFr × ASt) := (TM EK noSum flK fl0 60).ex ⟨[], [6, 10], [], []⟩ none (preC 2 cF) { m := putArgs [pO d] 0 .e, n := 36, defs := [] } S
noncomputable def tF2 (d : Nat) (S : ASt) : Tr (Exit × AFr × ASt) := (TM EK noSum flK fl0 60).ex fl0 none (seqL P3) (xFr [(0, pO d), (3, nI 0)] 36) S
noncomputable def tF3 (d m : Nat) (S S1 : ASt) : Tr (Exit × AFr × ASt) := (TM EK noSum flK fl0 60).ex ⟨[16, 17], [], [], []⟩ none (seqL (seqL BG)) (xFr [(0, pO d), (3, nI 0), (12, .bool true)] 36) S
noncomputable def tFx (d i : Nat) (S : ASt) : Tr (Exit × AFr × ASt) := (TM EK noSum flK fl0 60).ex ⟨[18], [], [], []⟩ none LB (frF d i) S
noncomputable def tFr (q : CallT) (d l n i k : Nat) (V : AV) (B : List Nat) (S S1 S2 : ASt) : Tr (Exit × AFr × ASt) := (TM EK (onlyC [56] q) flK fl0 60).ex ⟨[20, 25, 29, 30, 4095, 4094], [], [], []⟩ none (seqR LB) (xFr [(0, pO d), (3, nI 0), (17, pO i), (19, .bool true)] 36) S
noncomputable def tF9 (d i m : Nat) (S S1 : ASt) : Tr (Exit × AFr × ASt) := (TM EK noSum flK fl0 60).ex ⟨[34, 4095], [], [], []⟩ none (seqR BG) (frF d i) S
noncomputable def tFz (S : ASt) : Tr (Exit × AFr × ASt) := (TM EK noSum flK fl0 60).ex fl0 none (dropC 3 cF) (xFr [(3, nI 0)] 36) S
-- Fill
noncomputable def tFi (c : Int) : Tr (AV × ASt) := (TM EK noSum [] fl0 60).call 13 [.int .u8 c] (mkSt [] 0)
theorem vcRd (q : CallT) (d : Nat) (l : Nat) (m : Nat) (n : Nat) (i : Nat) (B : List Nat) (S : ASt) (S1 : ASt) (S2 : ASt) (S3 : ASt) (Q : Exit × AFr × ASt → Prop) :
  (aAlloc EK 33 S = some (AV.ptr (some (S.next, 0)), S1) ∧ aLoad EK 46 (AV.ptr (some (d, 1))) S1 = some (AV.map (some m), S1) ∧ still S1 (aBin EK BinOp.lss 3 (Operand.tmp 10) (Operand.const (Value.int IntKind.i64 0)) (AV.int IntKind.i64 (Int.ofNat i)) (AV.int IntKind.i64 (Int.ofNat 0))) = some (AV.bool false, S1) ∧ aLoad EK 30 (AV.ptr (some (d, 0))) S1 = some (AV.slice (some (l, 0)) n (Cap.known n), S1) ∧ still S1 (aBin EK BinOp.geq 3 (Operand.tmp 13) (Operand.tmp 18) (AV.int IntKind.i64 (Int.ofNat i)) (AV.int IntKind.i64 (Int.ofNat n))) = some (AV.bool false, S1) ∧ aLoad EK 4 (AV.ptr (some (d, 5))) S1 = some (AV.bool false, S1) ∧ (M EK (drawA EK) (onlyC [56] q) 56).call 56 [AV.ptr (some (d, 0)), AV.int IntKind.i64 (Int.ofNat i)] S1 = some (AV.agg (bl B), S2) ∧ Option.map (fun s => (undefA, s)) (aStore EK 33 (AV.ptr (some (S.next, 0))) (AV.agg (bl B)) S2) = some (AV.tuple [], S3) ∧ Q (Exit.ret, xFr [(4, AV.ptr (some (S.next, 0))), (5, AV.int IntKind.i64 (Int.ofNat 0))] 17, S3)) =
  (tRd q d l m n i B S S1 S2 S3).allY (fun r => Q (rawR [4, 5] r)) (An.v (AV.ptr (some (S.next, 0)), S1) (An.v (AV.map (some m), S1) (An.v (AV.bool false, S1) (An.v (AV.slice (some (l, 0)) n (Cap.known n), S1) (An.v (AV.bool false, S1) (An.v (AV.bool false, S1) (An.v (AV.agg (bl B), S2) (An.v (AV.tuple [], S3) An.nil)))))))) := by kernel_rfl
theorem vcNw (n : Nat) (R : AV) (S : ASt) (S1 : ASt) (S2 : ASt) (S3 : ASt) (Q : AV × ASt → Prop) :
  (still S (aBin EK BinOp.lss 3 (Operand.tmp 4) (Operand.const (Value.int IntKind.i64 1)) (AV.int IntKind.i64 (Int.ofNat n)) (AV.int IntKind.i64 (Int.ofNat 1))) = some (AV.bool false, S) ∧ still S (aBin EK BinOp.gtr 3 (Operand.tmp 7) (Operand.const (Value.int IntKind.i64 1000)) (AV.int IntKind.i64 (Int.ofNat n)) (AV.int IntKind.i64 (Int.ofNat 1000))) = some (AV.bool false, S) ∧ aMake EK 30 (AV.int IntKind.i64 (Int.ofNat n)) (AV.int IntKind.i64 (Int.ofNat n)) S = some (AV.slice (some (S.next, 0)) n (Cap.known n), S1) ∧ some (aMakeMap S1) = some (AV.map (some S1.next), S2) ∧ aBox (AV.agg [AV.slice (some (S.next, 0)) n (Cap.known n), AV.map (some S1.next), AV.int IntKind.i64 (Int.ofNat 0), AV.bool false, AV.bool false, AV.bool false]) S2 = some (AV.ptr (some (S2.next, 0)), S3) ∧ Q (AV.tuple [AV.ptr (some (S2.next, 0)), AV.int IntKind.i64 (Int.ofNat 0)], S3)) =
  (tNw n R S S1 S2 S3).allY (Q) (An.v (AV.bool false, S) (An.v (AV.bool false, S) (An.v (AV.slice (some (S.next, 0)) n (Cap.known n), S1) (An.v (AV.map (some S1.next), S2) (An.v (AV.ptr (some (S2.next, 0)), S3) An.nil))))) := by kernel_rfl
theorem vcF1 (d : Nat) (l : Nat) (m : Nat) (n : Nat) (S : ASt) (S2 : ASt) (Q : Exit × AFr × ASt → Prop) :
  (aLoad EK 46 (AV.ptr (some (d, 1))) S = some (AV.map (some m), S) ∧ still S (aBin EK BinOp.lss 3 (Operand.tmp 10) (Operand.const (Value.int IntKind.i64 0)) (AV.int IntKind.i64 (Int.ofNat 0)) (AV.int IntKind.i64 (Int.ofNat 0))) = some (AV.bool false, S) ∧ aLoad EK 30 (AV.ptr (some (d, 0))) S = some (AV.slice (some (l, 0)) n (Cap.known n), S) ∧ still S (aBin EK BinOp.geq 3 (Operand.tmp 13) (Operand.tmp 18) (AV.int IntKind.i64 (Int.ofNat 0)) (AV.int IntKind.i64 (Int.ofNat n))) = some (AV.bool false, S) ∧ aLoad EK 4 (AV.ptr (some (d, 5))) S = some (AV.bool false, S) ∧ aLoad EK 4 (AV.ptr (some (d, 4))) S = some (AV.bool false, S) ∧ aLoad EK 4 (AV.ptr (some (d, 3))) S = some (AV.bool false, S) ∧ Option.map (fun s => (undefA, s)) (aStore EK 4 (AV.ptr (some (d, 4))) (AV.bool false) S) = some (AV.tuple [], S2) ∧ aLoad EK 4 (AV.ptr (some (d, 4))) S2 = some (AV.bool false, S2) ∧ aLoad EK 4 (AV.ptr (some (d, 3))) S2 = some (AV.bool false, S2) ∧ Q (Exit.normal, xFr [(0, AV.ptr (some (d, 0))), (3, AV.int IntKind.i64 (Int.ofNat 0))] 36, S2)) =
  (tF1 d l m n S S2).allY (fun r => Q (rawR [0, 3] r)) (An.v (AV.map (some m), S) (An.v (AV.bool false, S) (An.v (AV.slice (some (l, 0)) n (Cap.known n), S) (An.v (AV.bool false, S) (An.v (AV.bool false, S) (An.v (AV.bool false, S) (An.v (AV.bool false, S) (An.v (AV.tuple [], S2) (An.v (AV.bool false, S2) (An.v (AV.bool false, S2) An.nil)))))))))) := by kernel_rfl
theorem vcF2 (d : Nat) (S : ASt) (Q : Exit × AFr × ASt → Prop) :
  (Q (Exit.normal, xFr [(0, AV.ptr (some (d, 0))), (3, AV.int IntKind.i64 (Int.ofNat 0)), (12, AV.bool true)] 36, S)) =
  (tF2 d S).allY (fun r => Q (rawR [0, 3, 12] r)) (An.nil) := by kernel_rfl
theorem vcF3 (d : Nat) (m : Nat) (S : ASt) (S1 : ASt) (Q : Exit × AFr × ASt → Prop) :
  (aLoad EK 46 (AV.ptr (some (d, 1))) S = some (AV.map (some m), S) ∧ aRange EK 46 (AV.map (some m)) S = some (AV.ptr (some (S.next, 0)), S1) ∧ Q (Exit.normal, xFr [(0, AV.ptr (some (d, 0))), (3, AV.int IntKind.i64 (Int.ofNat 0)), (17, AV.ptr (some (S.next, 0)))] 36, S1)) =
  (tF3 d m S S1).allY (fun r => Q (rawR [0, 3, 17] r)) (An.v (AV.map (some m), S) (An.v (AV.ptr (some (S.next, 0)), S1) An.nil)) := by kernel_rfl
theorem vcFx (d : Nat) (i : Nat) (S : ASt) (Q : Exit × AFr × ASt → Prop) :
  (aNext (AV.ptr (some (i, 0))) false S = some (AV.tuple [AV.bool false], S) ∧ Q (Exit.exit 0, xFr [(0, AV.ptr (some (d, 0))), (3, AV.int IntKind.i64 (Int.ofNat 0)), (17, AV.ptr (some (i, 0)))] 36, S)) =
  (tFx d i S).allY (fun r => Q (rawR [0, 3, 17] r)) (An.v (AV.tuple [AV.bool false], S) An.nil) := by kernel_rfl
theorem vcFr (q : CallT) (d : Nat) (l : Nat) (n : Nat) (i : Nat) (k : Nat) (V : AV) (B : List Nat) (S : ASt) (S1 : ASt) (S2 : ASt) (Q : Exit × AFr × ASt → Prop) :
  (still S (aEntry (AV.ptr (some (i, 0))) S) = some (AV.tuple [AV.int IntKind.i64 (Int.ofNat k), V], S) ∧ aLoad EK 30 (AV.ptr (some (d, 0))) (ASt.mk S.h (S.next + 10)) = some (AV.slice (some (l, 0)) n (Cap.known n), ASt.mk S.h (S.next + 10)) ∧ (M EK (drawA EK) (onlyC [56] q) 56).call 56 [AV.ptr (some (d, 0)), AV.int IntKind.i64 (Int.ofNat k)] (ASt.mk S.h (S.next + 10)) = some (AV.agg (bl B), S1) ∧ still S1 (aIndexAddr EK 30 (AV.slice (some (l, 0)) n (Cap.known n)) (AV.int IntKind.i64 (Int.ofNat k))) = some (AV.ptr (some (l, k * 256)), S1) ∧ Option.map (fun s => (undefA, s)) (aStore EK 33 (AV.ptr (some (l, k * 256))) (AV.agg (bl B)) S1) = some (AV.tuple [], S2) ∧ holdsO [(fstO (aLoad EK 30 (AV.ptr (some (d, 0))) S1), AV.slice (some (l, 0)) n (Cap.known n))] ∧ Q (Exit.normal, xFr [(0, AV.ptr (some (d, 0))), (3, AV.int IntKind.i64 (Int.ofNat 0)), (17, AV.ptr (some (i, 0)))] 36, S2)) =
  (tFr q d l n i k V B S S1 S2).allY (fun r => Q (rawR [0, 3, 17] r)) (An.v (AV.tuple [AV.int IntKind.i64 (Int.ofNat k), V], S) (An.v (AV.slice (some (l, 0)) n (Cap.known n), ASt.mk S.h (S.next + 10)) (An.v (AV.agg (bl B), S1) (An.v (AV.ptr (some (l, k * 256)), S1) (An.v (AV.tuple [], S2) An.nil))))) := by kernel_rfl
theorem vcF9 (d : Nat) (i : Nat) (m : Nat) (S : ASt) (S1 : ASt) (Q : Exit × AFr × ASt → Prop) :
  (aLoad EK 46 (AV.ptr (some (d, 1))) S = some (AV.map (some m), S) ∧ aBuiltinM EK Builtin.clear [46] [AV.map (some m)] S = some (AV.tuple [], S1) ∧ Q (Exit.normal, xFr [(3, AV.int IntKind.i64 (Int.ofNat 0))] 36, S1)) =
  (tF9 d i m S S1).allY (fun r => Q (rawR [3] r)) (An.v (AV.map (some m), S) (An.v (AV.tuple [], S1) An.nil)) := by kernel_rfl
theorem vcFz (S : ASt) (Q : Exit × Option (AV × ASt) → Prop) :
  (Q (Exit.ret, some (AV.int IntKind.i64 (Int.ofNat 0), S))) =
  (tFz S).allY (fun r => Q (r.1, leaveA EK Try.f20 r.2.1 r.2.2)) (An.nil) := by kernel_rfl
end Go.Proofs.Ytmjmpmmonelmmaa.dsk
end

section
open Go Go.Ax Go.Proofs
namespace Go.Proofs.Ytmjmpmmonelmmaa.dsk
set_option linter.unusedVariables false
def curB (las : List (List Nat)) (es : List En) (i : Nat) : List Nat := ((vers es i).getLast?).getD (las.getD i [])
theorem al_b {S : ASt} : aAlloc EK 33 S = some (pO S.next, S.add (.cells (bl []) true)) := by kernel_rfl
theorem Disk.keep {S S' : ASt} {d l m ck : Nat} {las : List (List Nat)} {es : List En} (hD : Disk S d l m las es ck) (ht : Tidy S) (h : ∀ k, k < S.next → S'.h.get k = S.h.get k) : Disk S' d l m las es ck :=
  ⟨by rw [h _ (ht.lt hD.hd)]; exact hD.hd, by rw [h _ (ht.lt hD.hl)]; exact hD.hl, by rw [h _ (ht.lt hD.hm)]; exact hD.hm, fun e he => by
    obtain ⟨p1, p2⟩ := hD.row e he
    exact ⟨by rw [h _ (ht.lt p1)]; exact p1, p2⟩, hD.keys, hD.borns, hD.most⟩
theorem split_at {es : List En} {i : Nat} (hk : (es.map (·.k)).Nodup) (h : ∃ e, e ∈ es ∧ e.k = i) : ∃ A e C, es = A ++ e :: C ∧ e.k = i ∧ (∀ a, a ∈ A → a.k ≠ i) ∧ (∀ a, a ∈ C → a.k ≠ i) ∧ vers es i = e.vs := by
  obtain ⟨e, he, hek⟩ := h
  obtain ⟨A, C, hes⟩ := List.append_of_mem he
  have hnd := hk
  rw [hes, List.map_append, List.map_cons, List.nodup_append] at hnd
  have hA : ∀ a, a ∈ A → a.k ≠ i := fun a ha x => hnd.2.2 a.k (List.mem_map_of_mem ha) e.k List.mem_cons_self (by rw [x, hek])
  have hC : ∀ a, a ∈ C → a.k ≠ i := fun a ha x => (List.nodup_cons.1 hnd.2.1).1 (by rw [hek, ← x]; exact List.mem_map_of_mem ha)
  exact ⟨A, e, C, hes, hek, hA, hC, by rw [hes, vers_app, vers_cons, vers_nil hA, vers_nil hC, if_pos hek]; simp⟩
section
variable {S : ASt} {d l m ck i k n : Nat} {las : List (List Nat)} {es : List En}
theorem gtr0 {k : Nat} : still S (aBin EK .gtr 3 (.tmp 13) (.const (.int .i64 0)) (.int .i64 (.ofNat k)) (.int .i64 (.ofNat 0))) = some (.bool (decide (0 < k)), S) := by
  have e : aBin EK .gtr 3 (.tmp 13) (.const (.int .i64 0)) (.int .i64 (.ofNat k)) (.int .i64 (.ofNat 0)) = some (.bool (ltF (.ofNat 0) (.ofNat k))) := by kernel_rfl
  rw [ltF_nn] at e
  exact still_of e
theorem sub1 {k : Nat} (h : k < 4611686018427387904) : still S (aBin EK .sub 3 (.tmp 17) (.const (.int .i64 1)) (.int .i64 (.ofNat (k + 1))) (.int .i64 (.ofNat 1))) = some (nI k, S) := by
  have e : aBin EK .sub 3 (.tmp 17) (.const (.int .i64 1)) (.int .i64 (.ofNat (k + 1))) (.int .i64 (.ofNat 1)) = some (.int .i64 (wrapF .i64 (.ofNat (k + 1) - .ofNat 1))) := by kernel_rfl
  have e2 : (Int.ofNat (k + 1) - Int.ofNat 1) = Int.ofNat k := by
    show ((k + 1 : Nat) : Int) - 1 = (k : Int)
    omega
  refine still_of ?_
  rw [e, e2, wrap_nat (by omega)]; rfl
theorem ix_s {c : Cap} (h : k < n) : still S (aIndexAddr EK 30 (.slice (some (l, 0)) n c) (.int .i64 (.ofNat k))) = some (.ptr (some (l, k * 256)), S) := by
  have := still_idx (st := S) (i := l) (o := 0) (c := c) (kd := .i64) sl_s h
  rw [Nat.zero_add] at this; exact this
theorem leave_now {S : ASt} {b : List Nat} {j : Nat} (h : S.h.get j = some (.cells (bl b) true)) : leaveA EK Try.f56 (xFr [(4, pO j)] 28) S = some (.agg (bl b), S) :=
  leave_cell (a := 4) (t := 33) (x := pO j) (by kernel_rfl) rfl (by kernel_rfl) (ld_blk h)
theorem now_at (hD : Disk S d l m las es ck) (ht : Tidy S) (hi : i < las.length) (hv : (vers es i).length < 1000000) :
    ∃ S', Call1 Try.prog 56 [pO d, nI i] S (.agg (bl (curB las es i)), S') ∧ Tidy S' ∧ S'.next = S.next + 1 ∧ ∀ k, k < S.next → S'.h.get k = S.h.get k := by
  obtain ⟨S1, e1⟩ : ∃ X, X = S.add (.cells (bl []) true) := ⟨_, rfl⟩
  have g1 : ∀ k, k < S.next → S1.h.get k = S.h.get k := fun k hk => by rw [e1, add_ne (by omega)]
  have a1 : S1.h.get S.next = some (.cells (bl []) true) := by rw [e1]; exact add_at
  have n1 : S1.next = S.next + 1 := by rw [e1]; rfl
  have t1 : Tidy S1 := by rw [e1]; exact ht.add
  have D1 := hD.keep ht g1
  obtain ⟨S2, e2⟩ : ∃ X, X = S1.put S.next (.cells (bl (curB las es i)) true) := ⟨_, rfl⟩
  have st : aStore EK 33 (pO S.next) (.agg (bl (curB las es i))) S1 = some S2 := by rw [e2]; exact storeW_at sz_b (bl_len _) (bl_len _) a1
  have a2 : S2.h.get S.next = some (.cells (bl (curB las es i)) true) := by rw [e2]; exact put_at
  have fin : ∀ (e : Exit) (F : AFr) (S' : ASt), (e, F, S') = (.ret, xFr [(4, pO S.next)] 28, S2) → (e = .normal ∨ e = .ret) ∧ F.n = 28 ∧ leaveA EK Try.f56 F S' = some (.agg (bl (curB las es i)), S2) := fun e F S' h => by
    cases h
    exact ⟨.inr rfl, rfl, leave_now a2⟩
  refine ⟨S2, ?_, by rw [e2]; exact t1.put (by omega), by rw [e2, put_next]; exact n1, fun k hk => by rw [e2, put_ne (by omega)]; exact g1 k hk⟩
  by_cases hex : ∃ e, e ∈ es ∧ e.k = i
  · obtain ⟨A, e, C, hes, hek, hA, hC, hver⟩ := split_at hD.keys hex
    obtain ⟨p1, p2, p3, p4, p5⟩ := D1.row e (by rw [hes]; simp)
    obtain ⟨k, hk⟩ : ∃ k, e.vs.length = k + 1 := ⟨e.vs.length - 1, by have := List.length_pos_iff.2 p2; omega⟩
    have hlast : e.vs[k]? = some (curB las es i) := by
      unfold curB
      rw [hver, List.getLast?_eq_getElem?, hk, Nat.add_sub_cancel, List.getElem?_eq_getElem (by omega)]
      rfl
    have hm1 := D1.hm
    rw [hes] at hm1
    refine Call1.of_exR EKok noSum_ok (fn := Try.f56) (c := cN) (by kernel_rfl) (by kernel_rfl) (by kernel_rfl) (N := 28) (by kernel_rfl) rfl (kf := [4]) (by kernel_rfl) (Q := fun q => q = (.ret, xFr [(4, pO S.next)] 28, S2)) (Eq.mp (vcNo d l m las.length i e.r k (curB las es i) S S1 S2 (fun q => q = (.ret, xFr [(4, pO S.next)] 28, S2))) ?_) fin
    have lo := look_old hm1 hek hA
    rw [hk] at lo
    exact ⟨by rw [e1]; exact al_b, ld_m D1.hd, lo, by rw [gtr0]; simp, sub1 (by rw [hver] at hv; omega), ix_s (by omega), ld_row p1 hlast, okS_of st, rfl⟩
  · have hno : ∀ e, e ∈ es → e.k ≠ i := fun e he x => hex ⟨e, he, x⟩
    have hcur : las[i]? = some (curB las es i) := by
      unfold curB
      rw [vers_nil hno]
      simp [hi]
    refine Call1.of_exR EKok noSum_ok (fn := Try.f56) (c := cN) (by kernel_rfl) (by kernel_rfl) (by kernel_rfl) (N := 28) (by kernel_rfl) rfl (kf := [4]) (by kernel_rfl) (Q := fun q => q = (.ret, xFr [(4, pO S.next)] 28, S2)) (Eq.mp (vcNn d l m las.length i (curB las es i) S S1 S2 (fun q => q = (.ret, xFr [(4, pO S.next)] 28, S2))) ?_) fin
    exact ⟨by rw [e1]; exact al_b, ld_m D1.hd, look_new D1.hm hno, by rw [gtr0]; rfl, ld_s D1.hd, ix_s hi, ld_row D1.hl hcur, okS_of st, rfl⟩
theorem read_at (hD : Disk S d l m las es ck) (ht : Tidy S) (hi : i < las.length) (hv : (vers es i).length < 1000000) :
    ∃ S', Call1 Try.prog 18 [pO d, nI i] S (.tuple [.agg (bl (curB las es i)), nI 0], S') ∧ Tidy S' ∧ S'.next = S.next + 2 ∧ ∀ k, k < S.next → S'.h.get k = S.h.get k := by
  obtain ⟨S1, e1⟩ : ∃ X, X = S.add (.cells (bl []) true) := ⟨_, rfl⟩
  have g1 : ∀ k, k < S.next → S1.h.get k = S.h.get k := fun k hk => by rw [e1, add_ne (by omega)]
  have a1 : S1.h.get S.next = some (.cells (bl []) true) := by rw [e1]; exact add_at
  have n1 : S1.next = S.next + 1 := by rw [e1]; rfl
  have t1 : Tidy S1 := by rw [e1]; exact ht.add
  have D1 := hD.keep ht g1
  obtain ⟨S2, hc, t2, n2, g2⟩ := now_at D1 t1 hi hv
  obtain ⟨S3, e3⟩ : ∃ X, X = S2.put S.next (.cells (bl (curB las es i)) true) := ⟨_, rfl⟩
  have st : aStore EK 33 (pO S.next) (.agg (bl (curB las es i))) S2 = some S3 := by rw [e3]; exact storeW_at sz_b (bl_len _) (bl_len _) (by rw [g2 _ (by omega)]; exact a1)
  have a3 : S3.h.get S.next = some (.cells (bl (curB las es i)) true) := by rw [e3]; exact put_at
  refine ⟨S3, ?_, by rw [e3]; exact t2.put (by omega), by rw [e3, put_next]; omega, fun k hk => by rw [e3, put_ne (by omega), g2 k (by omega)]; exact g1 k hk⟩
  refine Call1.of_exR EKok (onlyC_ok (tabC_ok (tab := [(56, [pO d, nI i], S1, (.agg (bl (curB las es i)), S2))]) fun e he => by
      simp only [List.mem_cons, List.not_mem_nil, or_false] at he
      subst he
      exact hc)) (fn := Try.f18) (c := cRd) (by kernel_rfl) (by kernel_rfl) (by kernel_rfl) (N := 17) (by kernel_rfl) rfl (kf := [4, 5]) (by kernel_rfl) (Q := fun q => q = (.ret, xFr [(4, pO S.next), (5, nI 0)] 17, S3))
    (Eq.mp (vcRd (tabC [(56, [pO d, nI i], S1, (.agg (bl (curB las es i)), S2))]) d l m las.length i (curB las es i) S S1 S2 S3 (fun q => q = (.ret, xFr [(4, pO S.next), (5, nI 0)] 17, S3))) ?_) (fun e F S' h => ?_)
  · exact ⟨by rw [e1]; exact al_b, ld_m D1.hd, lssN, ld_s D1.hd, geqN hi, ld_5 D1.hd, call_at (onlyC_at rfl (tabC_hd ..)), okS_of st, rfl⟩
  · cases h
    refine ⟨.inr rfl, rfl, ?_⟩
    exact leave_cell_tmp (a := 4) (b := 5) (t := 33) (x := pO S.next) (by kernel_rfl) rfl (by kernel_rfl) (ld_blk a3) (by kernel_rfl)
theorem new_at (ht : Tidy S) (h1 : 1 ≤ n) (h2 : n ≤ 1000) : ∃ S' d l m, Call1 Try.prog 11 [nI n] S (.tuple [pO d, nI 0], S') ∧ Disk S' d l m (List.replicate n []) [] 0 ∧ Tidy S' ∧ S.next ≤ S'.next ∧ S.next ≤ d ∧ S.next ≤ l ∧ S.next ≤ m ∧ ∀ k, k < S.next → S'.h.get k = S.h.get k := by
  have hz : repL (bl []) n = rowB (List.replicate n []) := by
    clear h1 h2
    induction n with
    | zero => rfl
    | succ k ih =>
      show bl [] ++ repL (bl []) k = _
      rw [ih]; rfl
  obtain ⟨S1, e1⟩ : ∃ X, X = S.add (.cells (rowB (List.replicate n [])) true) := ⟨_, rfl⟩
  obtain ⟨S2, e2⟩ : ∃ X, X = S1.add (.map [] 0) := ⟨_, rfl⟩
  have n1 : S1.next = S.next + 1 := by rw [e1]; rfl
  have n2 : S2.next = S.next + 2 := by rw [e2, add_next, n1]
  obtain ⟨S3, e3⟩ : ∃ X, X = S2.add (dK S.next S1.next n) := ⟨_, rfl⟩
  have n3 : S3.next = S.next + 3 := by rw [e3, add_next, n2]
  have mk : aMake EK 30 (nI n) (nI n) S = some (.slice (some (S.next, 0)) n (.known n), S1) := by
    have e : aMake EK 30 (nI n) (nI n) S = (bif Nat.ble (256 * n) 281474976710656 then bif Nat.ble n n then bif Nat.blt n 9223372036854775808 then some (.slice (some (S.next, 0)) n (.known n), S.add (.cells (repL (bl []) n) true)) else none else none else none) := by kernel_rfl
    rw [e, ble_t (show 256 * n ≤ 281474976710656 by omega), ble_t (Nat.le_refl n), blt_t (show n < 9223372036854775808 by omega), hz, ← e1]; rfl
  refine ⟨S3, S2.next, S.next, S1.next, ?_, ⟨by rw [e3, add_at, List.length_replicate], ?_, ?_, (fun e he => by cases he), List.nodup_nil, List.nodup_nil, by rw [List.length_replicate]; omega⟩, by rw [e3, e2, e1]; exact ht.add.add.add, by omega, by omega, by omega, by omega, fun k hk => by rw [e3, add_ne (by omega), e2, add_ne (by omega), e1, add_ne (by omega)]⟩
  · refine Call1.of_tm EKok noSum_ok (Eq.mp (vcNw n .any S S1 S2 S3 (fun q => q = (.tuple [pO S2.next, nI 0], S3))) ⟨?_, ?_, mk, by rw [e2]; rfl, by rw [e3]; rfl, rfl⟩)
    · have e : aBin EK .lss 3 (.tmp 4) (.const (.int .i64 1)) (.int .i64 (.ofNat n)) (.int .i64 (.ofNat 1)) = some (.bool (ltF (.ofNat n) (.ofNat 1))) := by kernel_rfl
      rw [ltF_nn, decide_eq_false (by omega)] at e
      exact still_of e
    · have e : aBin EK .gtr 3 (.tmp 7) (.const (.int .i64 1000)) (.int .i64 (.ofNat n)) (.int .i64 (.ofNat 1000)) = some (.bool (ltF (.ofNat 1000) (.ofNat n))) := by kernel_rfl
      rw [ltF_nn, decide_eq_false (by omega)] at e
      exact still_of e
  · rw [e3, add_ne (by omega), e2, add_ne (by omega), e1, add_at]
  · rw [e3, add_ne (by omega), e2, add_at]; rfl
end
end Go.Proofs.Ytmjmpmmonelmmaa.dsk
end
