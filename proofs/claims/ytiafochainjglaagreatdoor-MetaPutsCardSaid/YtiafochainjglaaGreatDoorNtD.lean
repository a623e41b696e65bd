/-
  OWN WORK, A PART: an abstract machine for the program's text that the kernel can run, and the proof that it is sound: what it answers is what the program answers; contracts of functions by it. No condition.
-/
import Derived.Test.YtiafochainjglaaGreatDoorNtA
import Derived.KernelRfl
import Derived.Test.YtiafochainjglaaGreatDoorNtC
import Derived.Test.YtiafochainjglaaGreatDoorMtH
import Derived.Test.YtiafochainjglaaGreatDoorMtI
section
open Go Go.Ax Go.Proofs
namespace Go.Proofs.YtiafochainjglaaGreatDoor.drp.pu
set_option linter.unusedVariables false
noncomputable def fnsW8:List (Nat×Func):=[(8,Tryz.f8)]
noncomputable def EW8:Env:=envEx Tryz.prog [0,3,4,5,23,24,25,27,28,29,30,31,32,33,34,35,36,37,38,43,51,53,54,55,56,60,69,103,104,111] fnsW8 []
noncomputable def cW8:Code:=Option.getD Tryz.f8.body .skip
noncomputable def LW8:Code:=lopB (blkB (seqR (seqL (dropC 2 cW8))))
noncomputable def tW1 (q:CallT) (z:Int) (P:AV) (b s:Int) (c:Bool) (x:Nat→Nat) (Z:Nat→Int) (t:Nat) (mk:Bool) (se nu ho:Nat) (k0:Nat) (S S1:ASt):Tr (Exit×AFr×ASt):=(TM EW8 (onlyC [9,14,19,40,22,16,11,41,42,43,15] q) [] fl0 60).ex ⟨[5,15,20,21,26,27,29,33,35,38,40,41,43,45,47,48,50,52,54,55,62,64,67,70,75,81,82,83,84,89,91,92,98,12,104,105,106,109,23,4095,4094],[],[],[]⟩ none cW8 {m:=putArgs [.int .i64 z,P,.agg (mG b s c x Z t mk se nu ho)] 0 .e,n:=111,defs:=[]} S
noncomputable def tW2 (q:CallT) (k n d:Nat) (P:AV) (b s:Int) (c:Bool) (x:Nat→Nat) (Z:Nat→Int) (t:Nat) (mk:Bool) (se nu ho:Nat) (k0:Nat) (S S1 S2:ASt):Tr (Exit×AFr×ASt):=(TM EW8 (onlyC [9,14,19,40,22,16,11,41,42,43,15] q) [] fl0 60).ex ⟨[5,15,20,21,26,27,29,33,35,38,40,41,43,45,47,48,50,52,54,55,62,64,67,70,75,81,82,83,84,89,91,92,98,12,104,105,106,109,23,4095,4094],[],[],[]⟩ none cW8 {m:=putArgs [.int .i64 (.ofNat k),P,.agg (mG b s c x Z t mk se nu ho)] 0 .e,n:=111,defs:=[]} S
noncomputable def tW3 (q:CallT) (k n d:Nat) (P:AV) (b s:Int) (c:Bool) (x:Nat→Nat) (Z:Nat→Int) (t:Nat) (mk:Bool) (se nu ho:Nat) (k0:Nat) (S S1 S2:ASt):Tr (Exit×AFr×ASt):=(TM EW8 (onlyC [9,14,19,40,22,16,11,41,42,43,15] q) [] fl0 60).ex ⟨[5,15,20,21,26,27,29,33,35,38,40,41,43,45,47,48,50,52,54,55,62,64,67,70,75,81,82,83,84,89,91,92,98,12,104,105,106,109,23,4095,4094],[],[],[]⟩ none (preC 2 cW8) {m:=putArgs [.int .i64 (.ofNat k),P,.agg (mG b s c x Z t mk se nu ho)] 0 .e,n:=111,defs:=[]} S
noncomputable def tW4 (k d k0:Nat) (P:AV) (S:ASt):Tr (Exit×AFr×ASt):=(TM EW8 noSum [] fl0 60).ex ⟨[5,15,20,21,26,27,29,33,35,38,40,41,43,45,47,48,50,52,54,55,62,64,67,70,75,81,82,83,84,89,91,92,98,12,104,105,106,109,23,4095,4094],[],[],[]⟩ none (seqL (seqL (dropC 2 cW8))) (xFr [(0,.int .i64 (.ofNat k)),(1,P),(5,.ptr (some (k0,0))),(7,.ptr (some (d,0)))] 111) S
noncomputable def tWb (q:CallT) (k n d i pi k0:Nat) (a e:Int) (B:List Nat) (P:AV) (S S1:ASt):Tr (Exit×AFr×ASt):=(TM EW8 (onlyC [9,14,19,40,22,16,11,41,42,43,15] q) [] fl0 60).ex ⟨[5,15,20,21,26,27,29,33,35,38,40,41,43,45,47,48,50,52,54,55,62,64,67,70,75,81,82,83,84,89,91,92,98,12,104,105,106,109,23,4095,4094],[],[],[]⟩ none LW8 (xFr [(0,.int .i64 (.ofNat k)),(1,P),(5,.ptr (some (k0,0))),(7,.ptr (some (d,0))),(8,.int .i64 (.ofNat i))] 111) S
noncomputable def tWx (q:CallT) (k n d i k0:Nat) (P:AV) (S:ASt):Tr (Exit×AFr×ASt):=(TM EW8 (onlyC [9,14,19,40,22,16,11,41,42,43,15] q) [] fl0 60).ex ⟨[5,15,20,21,26,27,29,33,35,38,40,41,43,45,47,48,50,52,54,55,62,64,67,70,75,81,82,83,84,89,91,92,98,12,104,105,106,109,23,4095,4094],[],[],[]⟩ none LW8 (xFr [(0,.int .i64 (.ofNat k)),(1,P),(5,.ptr (some (k0,0))),(7,.ptr (some (d,0))),(8,.int .i64 (.ofNat i))] 111) S
noncomputable def tWn (q:CallT) (k n d k0 r r2:Nat) (C C2:Cap) (P:AV) (b s:Int) (c:Bool) (x:Nat→Nat) (Z:Nat→Int) (t:Nat) (mk:Bool) (se nu ho:Nat) (S S1 S2 S3:ASt):Tr (Exit×AFr×ASt):=(TM EW8 (onlyC [9,14,19,40,22,16,11,41,42,43,15] q) [] fl0 60).ex ⟨[5,15,20,21,26,27,29,33,35,38,40,41,43,45,47,48,50,52,54,55,62,64,67,70,75,81,82,83,84,89,91,92,98,12,104,105,106,109,23,4095,4094],[],[],[]⟩ none (dropC 3 cW8) (xFr [(0,.int .i64 (.ofNat k)),(1,P),(5,.ptr (some (k0,0))),(7,.ptr (some (d,0)))] 111) S
noncomputable def tWm (q:CallT) (k n d k0 r r2:Nat) (C C2:Cap) (P:AV) (b s:Int) (c:Bool) (x:Nat→Nat) (Z:Nat→Int) (t:Nat) (mk:Bool) (se nu ho:Nat) (S S1 S2 S3:ASt):Tr (Exit×AFr×ASt):=(TM EW8 (onlyC [9,14,19,40,22,16,11,41,42,43,15] q) [] fl0 60).ex ⟨[5,15,20,21,26,27,29,33,35,38,40,41,43,45,47,48,50,52,54,55,62,64,67,70,75,81,82,83,84,89,91,92,98,12,104,105,106,109,23,4095,4094],[],[],[]⟩ none (dropC 3 cW8) (xFr [(0,.int .i64 (.ofNat k)),(1,P),(5,.ptr (some (k0,0))),(7,.ptr (some (d,0)))] 111) S
noncomputable def tWy (q:CallT) (k n d k0 r r2 r3 k1:Nat) (C C2 C3 C4 C5:Cap) (P:AV) (t se nu ho:Nat) (x y:Nat→Nat) (c mk:Bool) (S S1 S2 S3 S4 S5 S6 S7:ASt):Tr (Exit×AFr×ASt):=(TM EW8 (onlyC [9,14,19,40,22,16,11,41,42,43,15] q) [] fl0 60).ex ⟨[5,15,20,21,26,27,29,33,35,38,40,41,43,45,47,48,50,52,54,55,62,64,67,70,75,81,82,83,84,89,91,92,98,12,104,105,106,109,23,4095,4094],[],[],[]⟩ none (dropC 3 cW8) (xFr [(0,.int .i64 (.ofNat k)),(1,P),(5,.ptr (some (k0,0))),(7,.ptr (some (d,0)))] 111) S
theorem vcW1 (q:CallT) (z:Int) (P:AV) (b:Int) (s:Int) (c:Bool) (x:Nat→Nat) (Z:Nat→Int) (t:Nat) (mk:Bool) (se:Nat) (nu:Nat) (ho:Nat) (k0:Nat) (S:ASt) (S1:ASt) (Q:Exit×AFr×ASt→Prop) :
 (aBox (AV.agg (mG b s c x Z t mk se nu ho)) S=some (AV.ptr (some (k0,0)),S1)∧(M EW8 (drawA EW8) (onlyC [9,14,19,40,22,16,11,41,42,43,15] q) 57).call 14 [AV.int IntKind.i64 z] S1=some (AV.ptr none,S1)∧(M EW8 (drawA EW8) (onlyC [9,14,19,40,22,16,11,41,42,43,15] q) 53).call 9 [] S1=some (AV.bool true,S1)∧Q (Exit.ret,xFr [(6,AV.bool true)] 111,S1)) =
 (tW1 q z P b s c x Z t mk se nu ho k0 S S1).allY (fun r=>Q (rawR [6] r)) (An.v (AV.ptr (some (k0,0)),S1) (An.v (AV.ptr none,S1) (An.v (AV.bool true,S1) An.nil))):=by kernel_rfl
theorem vcW2 (q:CallT) (k:Nat) (n:Nat) (d:Nat) (P:AV) (b:Int) (s:Int) (c:Bool) (x:Nat→Nat) (Z:Nat→Int) (t:Nat) (mk:Bool) (se:Nat) (nu:Nat) (ho:Nat) (k0:Nat) (S:ASt) (S1:ASt) (S2:ASt) (Q:Exit×AFr×ASt→Prop) :
 (aBox (AV.agg (mG b s c x Z t mk se nu ho)) S=some (AV.ptr (some (k0,0)),S1)∧(M EW8 (drawA EW8) (onlyC [9,14,19,40,22,16,11,41,42,43,15] q) 57).call 14 [AV.int IntKind.i64 (Int.ofNat k)] S1=some (AV.ptr (some (d,0)),S2)∧aBuiltinM EW8 Builtin.len [51] [P] S2=some (AV.int IntKind.i64 (Int.ofNat n),S2)∧still S2 (aBin EW8 BinOp.gtr 3 (Operand.tmp 20) (Operand.const (Value.int IntKind.i64 30)) (AV.int IntKind.i64 (Int.ofNat n)) (AV.int IntKind.i64 (Int.ofNat 30)))=some (AV.bool true,S2)∧(M EW8 (drawA EW8) (onlyC [9,14,19,40,22,16,11,41,42,43,15] q) 53).call 9 [] S2=some (AV.bool true,S2)∧Q (Exit.ret,xFr [(6,AV.bool true)] 111,S2)) =
 (tW2 q k n d P b s c x Z t mk se nu ho k0 S S1 S2).allY (fun r=>Q (rawR [6] r)) (An.v (AV.ptr (some (k0,0)),S1) (An.v (AV.ptr (some (d,0)),S2) (An.v (AV.int IntKind.i64 (Int.ofNat n),S2) (An.v (AV.bool true,S2) (An.v (AV.bool true,S2) An.nil))))):=by kernel_rfl
theorem vcW3 (q:CallT) (k:Nat) (n:Nat) (d:Nat) (P:AV) (b:Int) (s:Int) (c:Bool) (x:Nat→Nat) (Z:Nat→Int) (t:Nat) (mk:Bool) (se:Nat) (nu:Nat) (ho:Nat) (k0:Nat) (S:ASt) (S1:ASt) (S2:ASt) (Q:Exit×AFr×ASt→Prop) :
 (aBox (AV.agg (mG b s c x Z t mk se nu ho)) S=some (AV.ptr (some (k0,0)),S1)∧(M EW8 (drawA EW8) (onlyC [9,14,19,40,22,16,11,41,42,43,15] q) 57).call 14 [AV.int IntKind.i64 (Int.ofNat k)] S1=some (AV.ptr (some (d,0)),S2)∧aBuiltinM EW8 Builtin.len [51] [P] S2=some (AV.int IntKind.i64 (Int.ofNat n),S2)∧still S2 (aBin EW8 BinOp.gtr 3 (Operand.tmp 20) (Operand.const (Value.int IntKind.i64 30)) (AV.int IntKind.i64 (Int.ofNat n)) (AV.int IntKind.i64 (Int.ofNat 30)))=some (AV.bool false,S2)∧Q (Exit.normal,xFr [(0,AV.int IntKind.i64 (Int.ofNat k)),(1,P),(5,AV.ptr (some (k0,0))),(7,AV.ptr (some (d,0)))] 111,S2)) =
 (tW3 q k n d P b s c x Z t mk se nu ho k0 S S1 S2).allY (fun r=>Q (rawR [0,1,5,7] r)) (An.v (AV.ptr (some (k0,0)),S1) (An.v (AV.ptr (some (d,0)),S2) (An.v (AV.int IntKind.i64 (Int.ofNat n),S2) (An.v (AV.bool false,S2) An.nil)))):=by kernel_rfl
theorem vcW4 (k:Nat) (d:Nat) (k0:Nat) (P:AV) (S:ASt) (Q:Exit×AFr×ASt→Prop) :
 (Q (Exit.normal,xFr [(0,AV.int IntKind.i64 (Int.ofNat k)),(1,P),(5,AV.ptr (some (k0,0))),(7,AV.ptr (some (d,0))),(8,AV.int IntKind.i64 (Int.ofNat 0))] 111,S)) =
 (tW4 k d k0 P S).allY (fun r=>Q (rawR [0,1,5,7,8] r)) (An.nil):=by kernel_rfl
theorem vcWb (q:CallT) (k:Nat) (n:Nat) (d:Nat) (i:Nat) (pi:Nat) (k0:Nat) (a:Int) (e:Int) (B:List Nat) (P:AV) (S:ASt) (S1:ASt) (Q:Exit×AFr×ASt→Prop) :
 (aBuiltinM EW8 Builtin.len [51] [P] S=some (AV.int IntKind.i64 (Int.ofNat n),S)∧still S (aBin EW8 BinOp.lss 3 (Operand.tmp 24) (Operand.tmp 26) (AV.int IntKind.i64 (Int.ofNat i)) (AV.int IntKind.i64 (Int.ofNat n)))=some (AV.bool true,S)∧still (ASt.mk S.h (S.next+12)) (aIndexAddr EW8 51 P (AV.int IntKind.i64 (Int.ofNat i)))=some (AV.ptr (some (pi,0+i*257)),ASt.mk S.h (S.next+12))∧aLoad EW8 3 (AV.ptr (some (pi,0+i*257+0))) (ASt.mk S.h (S.next+12))=some (AV.int IntKind.i64 a,ASt.mk S.h (S.next+12))∧still (ASt.mk S.h (S.next+12)) (aIndexAddr EW8 51 P (AV.int IntKind.i64 (Int.ofNat i)))=some (AV.ptr (some (pi,0+i*257)),ASt.mk S.h (S.next+12))∧aLoad EW8 54 (AV.ptr (some (pi,0+i*257+1))) (ASt.mk S.h (S.next+12))=some (AV.agg (bl B),ASt.mk S.h (S.next+12))∧(M EW8 (drawA EW8) (onlyC [9,14,19,40,22,16,11,41,42,43,15] q) 56).call 19 [AV.ptr (some (d,0)),AV.int IntKind.i64 a,AV.agg (bl B)] (ASt.mk S.h (S.next+12))=some (AV.int IntKind.i64 e,S1)∧holdsO []∧still S1 (aBin EW8 BinOp.add 3 (Operand.tmp 28) (Operand.const (Value.int IntKind.i64 1)) (AV.int IntKind.i64 (Int.ofNat i)) (AV.int IntKind.i64 (Int.ofNat 1)))=some (AV.int IntKind.i64 (Int.ofNat (i+1)),S1)∧Q (Exit.normal,xFr [(0,AV.int IntKind.i64 (Int.ofNat k)),(1,P),(5,AV.ptr (some (k0,0))),(7,AV.ptr (some (d,0))),(8,AV.int IntKind.i64 (Int.ofNat (i+1)))] 111,S1)) =
 (tWb q k n d i pi k0 a e B P S S1).allY (fun r=>Q (rawR [0,1,5,7,8] r)) (An.v (AV.int IntKind.i64 (Int.ofNat n),S) (An.v (AV.bool true,S) (An.v (AV.ptr (some (pi,0+i*257)),ASt.mk S.h (S.next+12)) (An.v (AV.int IntKind.i64 a,ASt.mk S.h (S.next+12)) (An.v (AV.ptr (some (pi,0+i*257)),ASt.mk S.h (S.next+12)) (An.v (AV.agg (bl B),ASt.mk S.h (S.next+12)) (An.v (AV.int IntKind.i64 e,S1) (An.v (AV.int IntKind.i64 (Int.ofNat (i+1)),S1) An.nil)))))))):=by kernel_rfl
theorem vcWx (q:CallT) (k:Nat) (n:Nat) (d:Nat) (i:Nat) (k0:Nat) (P:AV) (S:ASt) (Q:Exit×AFr×ASt→Prop) :
 (aBuiltinM EW8 Builtin.len [51] [P] S=some (AV.int IntKind.i64 (Int.ofNat n),S)∧still S (aBin EW8 BinOp.lss 3 (Operand.tmp 24) (Operand.tmp 26) (AV.int IntKind.i64 (Int.ofNat i)) (AV.int IntKind.i64 (Int.ofNat n)))=some (AV.bool false,S)∧Q (Exit.exit 0,xFr [(0,AV.int IntKind.i64 (Int.ofNat k)),(1,P),(5,AV.ptr (some (k0,0))),(7,AV.ptr (some (d,0)))] 111,S)) =
 (tWx q k n d i k0 P S).allY (fun r=>Q (rawR [0,1,5,7] r)) (An.v (AV.int IntKind.i64 (Int.ofNat n),S) (An.v (AV.bool false,S) An.nil)):=by kernel_rfl
theorem vcWn (q:CallT) (k:Nat) (n:Nat) (d:Nat) (k0:Nat) (r:Nat) (r2:Nat) (C:Cap) (C2:Cap) (P:AV) (b:Int) (s:Int) (c:Bool) (x:Nat→Nat) (Z:Nat→Int) (t:Nat) (mk:Bool) (se:Nat) (nu:Nat) (ho:Nat) (S:ASt) (S1:ASt) (S2:ASt) (S3:ASt) (Q:Exit×AFr×ASt→Prop) :
 ((M EW8 (drawA EW8) (onlyC [9,14,19,40,22,16,11,41,42,43,15] q) 58).call 40 [AV.ptr (some (d,0))] S=some (AV.int IntKind.i64 (Int.ofNat 0),S1)∧(M EW8 (drawA EW8) (onlyC [9,14,19,40,22,16,11,41,42,43,15] q) 57).call 22 [AV.ptr (some (d,0))] S1=some (AV.slice (some (r,0)) (9+k) C,S2)∧aLoad EW8 36 (AV.ptr (some (k0,0))) S2=some (AV.agg (mG b s c x Z t mk se nu ho),S2)∧(M EW8 (drawA EW8) (onlyC [9,14,19,40,22,16,11,41,42,43,15] q) 56).call 16 [AV.ptr (some (d,0)),AV.agg (mG b s c x Z t mk se nu ho)] S2=some (AV.int IntKind.i64 (Int.ofNat 2),S2)∧aLoad EW8 3 (AV.ptr (some (k0,0))) S2=some (AV.int IntKind.i64 b,S2)∧still S2 (aBin EW8 BinOp.neq 3 (Operand.tmp 50) (Operand.tmp 51) (AV.int IntKind.i64 b) (AV.int IntKind.i64 (Int.ofNat k)))=some (AV.bool true,S2)∧(M EW8 (drawA EW8) (onlyC [9,14,19,40,22,16,11,41,42,43,15] q) 52).call 22 [AV.ptr (some (d,0))] S2=some (AV.slice (some (r2,0)) (9+k) C2,S3)∧(M EW8 (drawA EW8) (onlyC [9,14,19,40,22,16,11,41,42,43,15] q) 52).call 41 [AV.slice (some (r2,0)) (9+k) C2,AV.slice (some (r,0)) (9+k) C] S3=some (AV.bool true,S3)∧(M EW8 (drawA EW8) (onlyC [9,14,19,40,22,16,11,41,42,43,15] q) 52).call 9 [] S3=some (AV.bool true,S3)∧Q (Exit.ret,xFr [(6,AV.bool true)] 111,S3)) =
 (tWn q k n d k0 r r2 C C2 P b s c x Z t mk se nu ho S S1 S2 S3).allY (fun r=>Q (rawR [6] r)) (An.v (AV.int IntKind.i64 (Int.ofNat 0),S1) (An.v (AV.slice (some (r,0)) (9+k) C,S2) (An.v (AV.agg (mG b s c x Z t mk se nu ho),S2) (An.v (AV.int IntKind.i64 (Int.ofNat 2),S2) (An.v (AV.int IntKind.i64 b,S2) (An.v (AV.bool true,S2) (An.v (AV.slice (some (r2,0)) (9+k) C2,S3) (An.v (AV.bool true,S3) (An.v (AV.bool true,S3) An.nil))))))))):=by kernel_rfl
theorem vcWm (q:CallT) (k:Nat) (n:Nat) (d:Nat) (k0:Nat) (r:Nat) (r2:Nat) (C:Cap) (C2:Cap) (P:AV) (b:Int) (s:Int) (c:Bool) (x:Nat→Nat) (Z:Nat→Int) (t:Nat) (mk:Bool) (se:Nat) (nu:Nat) (ho:Nat) (S:ASt) (S1:ASt) (S2:ASt) (S3:ASt) (Q:Exit×AFr×ASt→Prop) :
 ((M EW8 (drawA EW8) (onlyC [9,14,19,40,22,16,11,41,42,43,15] q) 58).call 40 [AV.ptr (some (d,0))] S=some (AV.int IntKind.i64 (Int.ofNat 0),S1)∧(M EW8 (drawA EW8) (onlyC [9,14,19,40,22,16,11,41,42,43,15] q) 57).call 22 [AV.ptr (some (d,0))] S1=some (AV.slice (some (r,0)) (9+k) C,S2)∧aLoad EW8 36 (AV.ptr (some (k0,0))) S2=some (AV.agg (mG b s c x Z t mk se nu ho),S2)∧(M EW8 (drawA EW8) (onlyC [9,14,19,40,22,16,11,41,42,43,15] q) 56).call 16 [AV.ptr (some (d,0)),AV.agg (mG b s c x Z t mk se nu ho)] S2=some (AV.int IntKind.i64 (Int.ofNat 2),S2)∧aLoad EW8 3 (AV.ptr (some (k0,0))) S2=some (AV.int IntKind.i64 b,S2)∧still S2 (aBin EW8 BinOp.neq 3 (Operand.tmp 50) (Operand.tmp 51) (AV.int IntKind.i64 b) (AV.int IntKind.i64 (Int.ofNat k)))=some (AV.bool false,S2)∧aLoad EW8 36 (AV.ptr (some (k0,0))) S2=some (AV.agg (mG b s c x Z t mk se nu ho),S2)∧(M EW8 (drawA EW8) (onlyC [9,14,19,40,22,16,11,41,42,43,15] q) 54).call 11 [AV.agg (mG b s c x Z t mk se nu ho)] S2=some (AV.bool false,S2)∧(M EW8 (drawA EW8) (onlyC [9,14,19,40,22,16,11,41,42,43,15] q) 52).call 22 [AV.ptr (some (d,0))] S2=some (AV.slice (some (r2,0)) (9+k) C2,S3)∧(M EW8 (drawA EW8) (onlyC [9,14,19,40,22,16,11,41,42,43,15] q) 52).call 41 [AV.slice (some (r2,0)) (9+k) C2,AV.slice (some (r,0)) (9+k) C] S3=some (AV.bool true,S3)∧(M EW8 (drawA EW8) (onlyC [9,14,19,40,22,16,11,41,42,43,15] q) 52).call 9 [] S3=some (AV.bool true,S3)∧Q (Exit.ret,xFr [(6,AV.bool true)] 111,S3)) =
 (tWm q k n d k0 r r2 C C2 P b s c x Z t mk se nu ho S S1 S2 S3).allY (fun r=>Q (rawR [6] r)) (An.v (AV.int IntKind.i64 (Int.ofNat 0),S1) (An.v (AV.slice (some (r,0)) (9+k) C,S2) (An.v (AV.agg (mG b s c x Z t mk se nu ho),S2) (An.v (AV.int IntKind.i64 (Int.ofNat 2),S2) (An.v (AV.int IntKind.i64 b,S2) (An.v (AV.bool false,S2) (An.v (AV.agg (mG b s c x Z t mk se nu ho),S2) (An.v (AV.bool false,S2) (An.v (AV.slice (some (r2,0)) (9+k) C2,S3) (An.v (AV.bool true,S3) (An.v (AV.bool true,S3) An.nil))))))))))):=by kernel_rfl
theorem vcWy (q:CallT) (k:Nat) (n:Nat) (d:Nat) (k0:Nat) (r:Nat) (r2:Nat) (r3:Nat) (k1:Nat) (C:Cap) (C2:Cap) (C3:Cap) (C4:Cap) (C5:Cap) (P:AV) (t:Nat) (se:Nat) (nu:Nat) (ho:Nat) (x:Nat→Nat) (y:Nat→Nat) (c:Bool) (mk:Bool) (S:ASt) (S1:ASt) (S2:ASt) (S3:ASt) (S4:ASt) (S5:ASt) (S6:ASt) (S7:ASt) (Q:Exit×AFr×ASt→Prop) :
 ((M EW8 (drawA EW8) (onlyC [9,14,19,40,22,16,11,41,42,43,15] q) 58).call 40 [AV.ptr (some (d,0))] S=some (AV.int IntKind.i64 (Int.ofNat 0),S1)∧(M EW8 (drawA EW8) (onlyC [9,14,19,40,22,16,11,41,42,43,15] q) 57).call 22 [AV.ptr (some (d,0))] S1=some (AV.slice (some (r,0)) (9+k) C,S2)∧aLoad EW8 36 (AV.ptr (some (k0,0))) S2=some (AV.agg (mL k x c y t mk se nu ho),S2)∧(M EW8 (drawA EW8) (onlyC [9,14,19,40,22,16,11,41,42,43,15] q) 56).call 16 [AV.ptr (some (d,0)),AV.agg (mL k x c y t mk se nu ho)] S2=some (AV.int IntKind.i64 (Int.ofNat 0),S3)∧aLoad EW8 3 (AV.ptr (some (k0,0))) S3=some (AV.int IntKind.i64 (Int.ofNat k),S3)∧still S3 (aBin EW8 BinOp.neq 3 (Operand.tmp 50) (Operand.tmp 51) (AV.int IntKind.i64 (Int.ofNat k)) (AV.int IntKind.i64 (Int.ofNat k)))=some (AV.bool false,S3)∧aLoad EW8 36 (AV.ptr (some (k0,0))) S3=some (AV.agg (mL k x c y t mk se nu ho),S3)∧(M EW8 (drawA EW8) (onlyC [9,14,19,40,22,16,11,41,42,43,15] q) 54).call 11 [AV.agg (mL k x c y t mk se nu ho)] S3=some (AV.bool true,S3)∧(M EW8 (drawA EW8) (onlyC [9,14,19,40,22,16,11,41,42,43,15] q) 54).call 22 [AV.ptr (some (d,0))] S3=some (AV.slice (some (r2,0)) (9+k) C2,S4)∧(M EW8 (drawA EW8) (onlyC [9,14,19,40,22,16,11,41,42,43,15] q) 52).call 42 [AV.ptr (some (d,0))] (ASt.mk S4.h (S4.next+24))=some (AV.slice none 0 (Cap.known 0),ASt.mk S4.h (S4.next+24))∧still (ASt.mk S4.h (S4.next+24)) (aSlice EW8 60 (AV.slice (some (r2,0)) (9+k) C2) none (some (AV.int IntKind.i64 (Int.ofNat 9))) none (ASt.mk S4.h (S4.next+24)))=some (AV.slice (some (r2,0)) 9 C3,ASt.mk S4.h (S4.next+24))∧aLoad EW8 36 (AV.ptr (some (k0,0))) (ASt.mk S4.h (S4.next+24))=some (AV.agg (mL k x c y t mk se nu ho),ASt.mk S4.h (S4.next+24))∧(M EW8 (drawA EW8) (onlyC [9,14,19,40,22,16,11,41,42,43,15] q) 52).call 43 [AV.agg (mL k x c y t mk se nu ho)] (ASt.mk S4.h (S4.next+24))=some (AV.slice (some (r3,0)) 9 (Cap.known 9),S5)∧(M EW8 (drawA EW8) (onlyC [9,14,19,40,22,16,11,41,42,43,15] q) 52).call 41 [AV.slice (some (r2,0)) 9 C3,AV.slice (some (r3,0)) 9 (Cap.known 9)] S5=some (AV.bool true,S5)∧still S5 (aSlice EW8 60 (AV.slice (some (r2,0)) (9+k) C2) (some (AV.int IntKind.i64 (Int.ofNat 9))) none none S5)=some (AV.slice (some (r2,2304)) k C4,S5)∧still S5 (aSlice EW8 60 (AV.slice (some (r,0)) (9+k) C) (some (AV.int IntKind.i64 (Int.ofNat 9))) none none S5)=some (AV.slice (some (r,2304)) k C5,S5)∧(M EW8 (drawA EW8) (onlyC [9,14,19,40,22,16,11,41,42,43,15] q) 52).call 41 [AV.slice (some (r2,2304)) k C4,AV.slice (some (r,2304)) k C5] S5=some (AV.bool true,S5)∧holdsO [(fstO (still S5 (aSlice EW8 60 (AV.slice (some (r2,0)) (9+k) C2) none (some (AV.int IntKind.i64 (Int.ofNat 9))) none S5)),AV.slice (some (r2,0)) 9 C3)]∧(M EW8 (drawA EW8) (onlyC [9,14,19,40,22,16,11,41,42,43,15] q) 52).call 15 [AV.ptr (some (d,0)),AV.int IntKind.i64 (Int.ofNat k)] S5=some (AV.tuple [AV.agg (mL k x c y t mk se nu ho),AV.int IntKind.i64 (Int.ofNat 0)],S5)∧aAlloc EW8 36 S5=some (AV.ptr (some (k1,0)),S6)∧Option.map (fun s=>(undefA,s)) (aStore EW8 36 (AV.ptr (some (k1,0))) (AV.agg (mL k x c y t mk se nu ho)) S6)=some (AV.tuple [],S7)∧aLoad EW8 36 (AV.ptr (some (k1,0))) S7=some (AV.agg (mL k x c y t mk se nu ho),S7)∧aLoad EW8 36 (AV.ptr (some (k0,0))) S7=some (AV.agg (mL k x c y t mk se nu ho),S7)∧still S7 (aBin EW8 BinOp.eql 36 (Operand.tmp 104) (Operand.tmp 105) (AV.agg (mL k x c y t mk se nu ho)) (AV.agg (mL k x c y t mk se nu ho)))=some (AV.bool true,S7)∧(M EW8 (drawA EW8) (onlyC [9,14,19,40,22,16,11,41,42,43,15] q) 51).call 9 [] S7=some (AV.bool true,S7)∧Q (Exit.ret,xFr [(6,AV.bool true)] 111,S7)) =
 (tWy q k n d k0 r r2 r3 k1 C C2 C3 C4 C5 P t se nu ho x y c mk S S1 S2 S3 S4 S5 S6 S7).allY (fun r=>Q (rawR [6] r)) (An.v (AV.int IntKind.i64 (Int.ofNat 0),S1) (An.v (AV.slice (some (r,0)) (9+k) C,S2) (An.v (AV.agg (mL k x c y t mk se nu ho),S2) (An.v (AV.int IntKind.i64 (Int.ofNat 0),S3) (An.v (AV.int IntKind.i64 (Int.ofNat k),S3) (An.v (AV.bool false,S3) (An.v (AV.agg (mL k x c y t mk se nu ho),S3) (An.v (AV.bool true,S3) (An.v (AV.slice (some (r2,0)) (9+k) C2,S4) (An.v (AV.slice none 0 (Cap.known 0),ASt.mk S4.h (S4.next+24)) (An.v (AV.slice (some (r2,0)) 9 C3,ASt.mk S4.h (S4.next+24)) (An.v (AV.agg (mL k x c y t mk se nu ho),ASt.mk S4.h (S4.next+24)) (An.v (AV.slice (some (r3,0)) 9 (Cap.known 9),S5) (An.v (AV.bool true,S5) (An.v (AV.slice (some (r2,2304)) k C4,S5) (An.v (AV.slice (some (r,2304)) k C5,S5) (An.v (AV.bool true,S5) (An.v (AV.tuple [AV.agg (mL k x c y t mk se nu ho),AV.int IntKind.i64 (Int.ofNat 0)],S5) (An.v (AV.ptr (some (k1,0)),S6) (An.v (AV.tuple [],S7) (An.v (AV.agg (mL k x c y t mk se nu ho),S7) (An.v (AV.agg (mL k x c y t mk se nu ho),S7) (An.v (AV.bool true,S7) (An.v (AV.bool true,S7) An.nil)))))))))))))))))))))))):=by kernel_rfl
end Go.Proofs.YtiafochainjglaaGreatDoor.drp.pu
end

section
open Go Go.Ax Go.Proofs
namespace Go.Proofs.YtiafochainjglaaGreatDoor.drp.pu
open cd cd2 cd3 cd4 cd5 cd9 oo my fm
open lw (encP encP_len encP_b known_at formatted_no)
open cp (bst bst_next bst_tidy bst_old bst_row blocks_at)
open sh (HH XX sumsP shortsP)
set_option linter.unusedVariables false
theorem EW8ok:Env.Ok Tryz.prog EW8:=envEx_ok (xs:=[]) ⟨⟨Tryz.func8,Tryz.call8⟩,trivial⟩ trivial (by kernel_rfl)
section
variable {Y:ASt} {a b:Nat} {z:Int} {x y:Operand}
theorem lss8:still Y (aBin EW8 .lss 3 x y (.int .i64 (.ofNat a)) (.int .i64 (.ofNat b)))=some (.bool (decide (a<b)),Y):=by
 have e:aBin EW8 .lss 3 x y (.int .i64 (.ofNat a)) (.int .i64 (.ofNat b))=some (.bool (ltF (.ofNat a) (.ofNat b))):=by kernel_rfl
 rw[ltF_nn] at e
 exact still_of e
theorem gtr8:still Y (aBin EW8 .gtr 3 x y (.int .i64 (.ofNat a)) (.int .i64 (.ofNat b)))=some (.bool (decide (b<a)),Y):=by
 have e:aBin EW8 .gtr 3 x y (.int .i64 (.ofNat a)) (.int .i64 (.ofNat b))=some (.bool (ltF (.ofNat b) (.ofNat a))):=by kernel_rfl
 rw[ltF_nn] at e
 exact still_of e
theorem add8 (h:a+b<1000000):still Y (aBin EW8 .add 3 x y (.int .i64 (.ofNat a)) (.int .i64 (.ofNat b)))=some (.int .i64 (.ofNat (a+b)),Y):=by
 have e:aBin EW8 .add 3 x y (.int .i64 (.ofNat a)) (.int .i64 (.ofNat b))=some (.int .i64 (wrapF .i64 (.ofNat a+.ofNat b))):=by kernel_rfl
 rw[show (Int.ofNat a+Int.ofNat b)=Int.ofNat (a+b) from rfl,wrap_nat (by omega)] at e
 exact still_of e
theorem neq8 {z w:Int}:still Y (aBin EW8 .neq 3 x y (.int .i64 z) (.int .i64 w))=some (.bool (!decide (z=w)),Y):=by
 have e:aBin EW8 .neq 3 x y (.int .i64 z) (.int .i64 w)=some (.bool (!eqF z w)):=by kernel_rfl
 have e2:eqF z w=decide (z=w):=by
  rw[eqF_eq]
  by_cases h:z=w
  ·rw[h,decide_eq_true rfl];exact beq_self_eq_true w
  ·rw[decide_eq_false h];exact beq_eq_false_iff_ne.2 h
 rw[e2] at e
 exact still_of e
theorem eqM8 {k t se nu ho:Nat} {x' y':Nat→Nat} {c mk:Bool}:still Y (aBin EW8 .eql 36 x y (.agg (mL k x' c y' t mk se nu ho)) (.agg (mL k x' c y' t mk se nu ho)))=some (.bool true,Y):=by
 have e:aBin EW8 .eql 36 x y (.agg (mL k x' c y' t mk se nu ho)) (.agg (mL k x' c y' t mk se nu ho))=(match aEq EW8 12 36 (.agg (mL k x' c y' t mk se nu ho)) (.agg (mL k x' c y' t mk se nu ho)) with | some r=>some (.bool r) | none=>none):=by kernel_rfl
 rw[lw.sEq_ok 12 36 _ (by kernel_rfl)] at e
 exact still_of e
theorem sl_hi {r n:Nat} (h9:9≤n):still Y (aSlice EW8 60 (.slice (some (r,0)) n (.rest 256)) none (some (.int .i64 (.ofNat 9))) none Y)=some (.slice (some (r,0)) 9 (.rest 256),Y):=by
 refine still_of ?_
 have e:aSlice EW8 60 (.slice (some (r,0)) n (.rest 256)) none (some (.int .i64 (.ofNat 9))) none Y=(match aBounds n (aRoom Y r 0 256 n) none (some 9) none with
  | some (l,h,m)=>bif Nat.blt l (aRoom Y r 0 256 n) then some (.slice (some (r,0+l*256)) (h - l) (.rest 256)) else bif Nat.beq l 0 then some (.slice (some (r,0)) 0 (.rest 256)) else some .slice0
  | none=>none):=by kernel_rfl
 have hr:n≤aRoom Y r 0 256 n:=by
  unfold aRoom
  split
  ·exact Nat.le_max_left _ _
  ·exact Nat.le_refl _
 rw[e,cd8.aB_hi (by omega)]
 show (bif Nat.blt 0 (aRoom Y r 0 256 n) then _ else _)=_
 rw[blt_t (by omega)];rfl
theorem sl_lo {r k:Nat} (h1:1≤k):still Y (aSlice EW8 60 (.slice (some (r,0)) (9+k) (.rest 256)) (some (.int .i64 (.ofNat 9))) none none Y)=some (.slice (some (r,2304)) k (.rest 256),Y):=by
 refine still_of ?_
 have e:aSlice EW8 60 (.slice (some (r,0)) (9+k) (.rest 256)) (some (.int .i64 (.ofNat 9))) none none Y=(match aBounds (9+k) (aRoom Y r 0 256 (9+k)) (some 9) none none with
  | some (l,h,m)=>bif Nat.blt l (aRoom Y r 0 256 (9+k)) then some (.slice (some (r,0+l*256)) (h - l) (.rest 256)) else bif Nat.beq l 0 then some (.slice (some (r,0)) 0 (.rest 256)) else some .slice0
  | none=>none):=by kernel_rfl
 have hr:9+k≤aRoom Y r 0 256 (9+k):=by
  unfold aRoom
  split
  ·exact Nat.le_max_left _ _
  ·exact Nat.le_refl _
 rw[e,cd8.aB_lo (by omega)]
 show (bif Nat.blt 9 (aRoom Y r 0 256 (9+k)) then some (AV.slice (some (r,0+9*256)) (9+k - 9) (.rest 256)) else _)=_
 rw[blt_t (by omega),Nat.add_sub_cancel_left];rfl
end
theorem sh8:dropC 2 cW8=.seq (.seq (seqL (seqL (dropC 2 cW8))) (.block 0 (.loop LW8))) (dropC 3 cW8):=by kernel_rfl
noncomputable def f8i (k d k0:Nat) (P:AV) (i:Nat):AFr:=xFr [(0,.int .i64 (.ofNat k)),(1,P),(5,.ptr (some (k0,0))),(7,.ptr (some (d,0))),(8,.int .i64 (.ofNat i))] 111
noncomputable def f8v (k d k0:Nat) (P:AV):AFr:=xFr [(0,.int .i64 (.ofNat k)),(1,P),(5,.ptr (some (k0,0))),(7,.ptr (some (d,0)))] 111
theorem fin8 {S X:ASt} (h:∀k,k<S.next→X.h.get k=S.h.get k):Left EW8 Tryz.f8 111 S (.bool true) (.ret,xFr [(6,.bool true)] 111,X) :=
 ⟨.inr rfl,rfl,leave_of (rs:=[.tmp 6]) (by kernel_rfl) rfl (res_tmp (by kernel_rfl) res_nil) rfl,h⟩
theorem row_of {S:ASt} {n:Nat} {g:Nat→List Nat} (hn:0<n):(bst g S n).h.get (S.next+3*(n - 1)+2)=some (.cells (dsk.rowB ((List.range n).map g)) true):=by
 have:=bst_row g S (n - 1)
 rw[show n - 1+1=n by omega] at this
 exact this
theorem slR_of {S:ASt} {r n o m:Nat} {g:Nat→List Nat} (h:S.h.get r=some (.cells (dsk.rowB ((List.range n).map g)) true)) (ho:o+m≤n):SlR S r (o*256) m (fun i=>g (o+i)):=by
 refine⟨_,_,h,fun i hi=>?_⟩
 have hl:o+i<((List.range n).map g).length:=by rw[List.length_map,List.length_range];omega
 rw[←Nat.add_mul,take_blk hl,List.getD_eq_getElem?_getD,List.getElem?_map,List.getElem?_range (by omega)]
 rfl
theorem SlR.congr {S:ASt} {r o n:Nat} {g g':Nat→List Nat} (h:SlR S r o n g) (e:∀i,i<n→bl (g i)=bl (g' i)):SlR S r o n g':=by
 obtain⟨cs,rw_,h1,h2⟩:=h.ex
 exact⟨cs,rw_,h1,fun i hi=>by rw[h2 i hi,e i hi]⟩
end Go.Proofs.YtiafochainjglaaGreatDoor.drp.pu
end

section
open Go Go.Ax Go.Proofs
namespace Go.Proofs.YtiafochainjglaaGreatDoor.drp.pu
open cd cd2 cd3 cd4 cd5 cd9 oo my fm
open lw (encP encP_len encP_b known_at formatted_no)
open cp (bst bst_next bst_tidy bst_old bst_row blocks_at)
open sh (HH XX sumsP shortsP)
set_option linter.unusedVariables false
theorem oneC_nn {k f:Nat} {ar args:List AV} {S X:ASt} {r:AV×ASt} (h:X.next≠S.next):oneC k ar S r f args X=none:=by unfold oneC;rw[if_neg (fun x=>h (by rw[x.2.2]))]
theorem oneC_na {k f:Nat} {ar args:List AV} {S X:ASt} {r:AV×ASt} (h:args≠ar):oneC k ar S r f args X=none:=by unfold oneC;rw[if_neg (fun x=>h x.2.1)]
theorem may_bd {Z:Nat→Int} (h:cd6.mayL (cd6.tL Z)=true):(∃a:Nat,Z 17=.ofNat a∧a<256)∧∃a:Nat,Z 18=.ofNat a∧a<256:=by
 have e17:cd6.tyL (cd6.tL Z)=Z 17:=by kernel_rfl
 have e18:cd6.hoL (cd6.tL Z)=Z 18:=by kernel_rfl
 have h0:∀z,eqF z (.ofNat 0)=true→∃a:Nat,z=.ofNat a∧a<256:=fun z hz=>⟨0,by rw[eqF_eq] at hz;exact eq_of_beq hz,by omega⟩
 have hk:∀z,cd6.kindB z=true→∃a:Nat,z=.ofNat a∧a<256:=by
  intro z hz
  match z,hz with
  | .ofNat a,hz =>
   refine⟨a,rfl,?_⟩
   unfold cd6.kindB at hz
   rw[ltF_nn,ltF_nn] at hz
   by_cases h6:6<a
   ·rw[decide_eq_true h6] at hz
    cases hh:(!decide (a<1))<;>rw[hh] at hz<;>cases hz
   ·omega
  | .negSucc a,hz=>cases hz
 have hw:∀z,cd6.whoB z=true→∃a:Nat,z=.ofNat a∧a<256:=by
  intro z hz
  match z,hz with
  | .ofNat a,hz=>exact⟨a,rfl,by have:=cd6.who_nat hz;simp at this;omega⟩
  | .negSucc a,hz=>cases hz
 unfold cd6.mayL at h
 rw[e17,e18] at h
 cases c1:eqF (Z 17) (.ofNat 0)
 ·rw[c1,cond_false] at h
  cases c2:cd6.kindB (Z 17)
  ·rw[c2] at h;cases h
  ·rw[c2,Bool.not_true,cond_false] at h
   refine⟨hk _ c2,?_⟩
   cases c3:cd6.allB (Z 17)
   ·rw[c3,cond_false] at h
    cases c4:cd6.whoB (Z 18)
    ·rw[c4] at h;cases h
    ·exact hw _ c4
   ·rw[c3,cond_true] at h
    cases c4:eqF (Z 18) (.ofNat 0)
    ·rw[c4] at h;cases h
    ·exact h0 _ c4
 ·rw[c1,cond_true] at h
  exact⟨h0 _ c1,h0 _ h⟩
theorem tL_nat {Z:Nat→Int} {y:Nat→Nat} (h:∀i,i<19→Z i=.ofNat (y i)):cd6.tL Z=rL y:=by
 have e:cd6.tL Z=cd6.tL (fun i=>.ofNat (y i)):=by
  unfold cd6.tL
  rw[h 0 (by decide),h 17 (by decide),h 18 (by decide),List.map_congr_left (fun i hi=>by rw[h (i+1) (by have:=List.mem_range.1 hi;omega)])]
 exact e.trans (by kernel_rfl)
theorem zOf_y (y:Nat→Nat):cd6.tL (zOf (y 0) (y 17) (y 18) (fun i=>y (i+1)))=rL y:=by kernel_rfl
section
variable {kb d l m n c0 k:Nat} {P:AV} {S S1 X:ASt} {b s:Int} {c:Bool} {x:Nat→Nat} {Z:Nat→Int} {t:Nat} {mk:Bool} {se nu ho:Nat}
theorem end_no (e1:S1=S.add (.cells (mG b s c x Z t mk se nu ho) true)) (D:DV S1.next S1 d l m (9+k) X c0) (hc:c0<1000000) (h1:1≤k) (h2:k≤64) (hse:se<18446744073709551616) (hno:b≠.ofNat k∨mayG b s x Z mk se nu ho=false) :
  Trip Tryz.prog kb none (dropC 3 cW8) (f8v k d S.next P) X (Left EW8 Tryz.f8 111 S (.bool true)):=by
 obtain⟨las,es,hv⟩:=D
 obtain⟨S2,las2,ck2,hf,hv2,hn2,hk2,hnb2,hl2,hm2⟩:=Dv.flushV hv hc (by omega)
 have hlen:=hv2.len
 have hd2:=hv2.dsk hc
 have hb:=blocks_at hd2 hlen (by omega) (by omega)
 obtain⟨S3,e3⟩:∃Y,Y=bst (nb las2 []) S2 (9+k):=⟨_,rfl⟩
 rw[←e3] at hb
 have ht3:Tidy S3:=by rw[e3];exact bst_tidy _ hv2.tidy _
 have n3:S3.next=S2.next+3*(9+k):=by rw[e3,bst_next]
 have k3:∀k,k<S2.next→S3.h.get k=S2.h.get k:=fun k hk=>by rw[e3];exact bst_old _ _ _ k hk
 have hv3:=hv2.keep (by omega) ht3 k3
 have hd3:=hv3.dsk hc
 have r3:S3.h.get (S2.next+3*(9+k - 1)+2)=some (.cells (dsk.rowB ((List.range (9+k)).map (nb las2 []))) true):=by rw[e3];exact row_of (by omega)
 have hp:=put_no (c:=c) (t:=t) hd3 hlen h1 h2 hse hno
 have hb4:=blocks_at hd3 hlen (by omega) (by omega)
 obtain⟨S4,e4⟩:∃Y,Y=bst (nb las2 []) S3 (9+k):=⟨_,rfl⟩
 rw[←e4] at hb4
 have ht4:Tidy S4:=by rw[e4];exact bst_tidy _ ht3 _
 have n4:S4.next=S3.next+3*(9+k):=by rw[e4,bst_next]
 have k4:∀k,k<S3.next→S4.h.get k=S3.h.get k:=fun k hk=>by rw[e4];exact bst_old _ _ _ k hk
 have hv4:=hv3.keep (by omega) ht4 k4
 have r4:S4.h.get (S3.next+3*(9+k - 1)+2)=some (.cells (dsk.rowB ((List.range (9+k)).map (nb las2 []))) true):=by rw[e4];exact row_of (by omega)
 have r34:S4.h.get (S2.next+3*(9+k - 1)+2)=some (.cells (dsk.rowB ((List.range (9+k)).map (nb las2 []))) true):=(k4 _ (by omega)).trans r3
 have q1:SlR S4 (S3.next+3*(9+k - 1)+2) 0 (9+k) (fun i=>nb las2 [] (0+i)):=slR_of (o:=0) r4 (by omega)
 have q2:SlR S4 (S2.next+3*(9+k - 1)+2) 0 (9+k) (fun i=>nb las2 [] (0+i)):=slR_of (o:=0) r34 (by omega)
 have hs:=same_ok (C:=.rest 256) (C2:=.rest 256) ht4 q1 q2 (by omega)
 have n1:S1.next=S.next+1:=by rw[e1];rfl
 have g1:S1.h.get S.next=some (.cells (mG b s c x Z t mk se nu ho) true):=by rw[e1];exact add_at
 have g3:S3.h.get S.next=some (.cells (mG b s c x Z t mk se nu ho) true):=(hv3.same _ (by omega)).trans g1
 have old:∀j,j<S.next→S4.h.get j=S.h.get j:=fun j hj=>(hv4.same j (by omega)).trans (by rw[e1];exact add_ne (by omega))
 have hm:∀Y,Call1 Tryz.prog 11 [.agg (mG b s c x Z t mk se nu ho)] Y (.bool (mayG b s x Z mk se nu ho),Y):=fun Y=>(may_any b s c x Z t mk se nu ho hse Y).2
 have ldA:aLoad EW8 36 (.ptr (some (S.next,0))) S3=some (.agg (mG b s c x Z t mk se nu ho),S3):=load_agg (z:=32) (by kernel_rfl) g3 (by kernel_rfl)
 have ld1:aLoad EW8 3 (.ptr (some (S.next,0))) S3=some (.int .i64 b,S3):=load_at (by kernel_rfl) g3 (by kernel_rfl)
 have hok:=orC_ok (oneC_ok hf) (orC_ok (oneC_ok hb) (orC_ok (oneC_ok hp) (orC_ok (oneC_ok hb4) (orC_ok (oneC_ok hs) (orC_ok (pureC_ok known_at) (pureC_ok hm))))))
 by_cases hbk:b=.ofNat k
 ·have hmf:mayG b s x Z mk se nu ho=false:=hno.elim (fun h=>absurd hbk h) id
  refine Trip.ofR EW8ok (onlyC_ok hok) (kf:=[6]) (Q1:=Left EW8 Tryz.f8 111 S (.bool true)) (Eq.mp (vcWm _ k 0 d S.next (S2.next+3*(9+k - 1)+2) (S3.next+3*(9+k - 1)+2) (.rest 256) (.rest 256) P b s c x Z t mk se nu ho X S2 S3 S4 (Left EW8 Tryz.f8 111 S (.bool true))) ⟨?_,?_,ldA,?_,ld1,?_,ldA,?_,?_,?_,?_,fin8 old⟩) (fun e F Z h=>h)
  ·exact ca (orC_l oneC_at)
  ·exact ca (orC_r (oneC_no (by decide)) (orC_l oneC_at))
  ·exact ca (orC_r (oneC_no (by decide)) (orC_r (oneC_no (by decide)) (orC_l oneC_at)))
  ·rw[neq8,decide_eq_true hbk];rfl
  ·have:=hm S3
   rw[←hmf]
   exact ca (orC_r (oneC_no (by decide)) (orC_r (oneC_no (by decide)) (orC_r (oneC_no (by decide)) (orC_r (oneC_no (by decide)) (orC_r (oneC_no (by decide)) (orC_r (pureC_no (by decide)) (pureC_at ..)))))))
  ·exact ca (orC_r (oneC_no (by decide)) (orC_r (oneC_nn (by omega)) (orC_r (oneC_no (by decide)) (orC_l oneC_at))))
  ·exact ca (orC_r (oneC_no (by decide)) (orC_r (oneC_no (by decide)) (orC_r (oneC_no (by decide)) (orC_r (oneC_no (by decide)) (orC_l oneC_at)))))
  ·exact ca (orC_r (oneC_no (by decide)) (orC_r (oneC_no (by decide)) (orC_r (oneC_no (by decide)) (orC_r (oneC_no (by decide)) (orC_r (oneC_no (by decide)) (orC_l (pureC_at ..)))))))
 ·refine Trip.ofR EW8ok (onlyC_ok hok) (kf:=[6]) (Q1:=Left EW8 Tryz.f8 111 S (.bool true)) (Eq.mp (vcWn _ k 0 d S.next (S2.next+3*(9+k - 1)+2) (S3.next+3*(9+k - 1)+2) (.rest 256) (.rest 256) P b s c x Z t mk se nu ho X S2 S3 S4 (Left EW8 Tryz.f8 111 S (.bool true))) ⟨?_,?_,ldA,?_,ld1,?_,?_,?_,?_,fin8 old⟩) (fun e F Z h=>h)
  ·exact ca (orC_l oneC_at)
  ·exact ca (orC_r (oneC_no (by decide)) (orC_l oneC_at))
  ·exact ca (orC_r (oneC_no (by decide)) (orC_r (oneC_no (by decide)) (orC_l oneC_at)))
  ·rw[neq8,decide_eq_false hbk];rfl
  ·exact ca (orC_r (oneC_no (by decide)) (orC_r (oneC_nn (by omega)) (orC_r (oneC_no (by decide)) (orC_l oneC_at))))
  ·exact ca (orC_r (oneC_no (by decide)) (orC_r (oneC_no (by decide)) (orC_r (oneC_no (by decide)) (orC_r (oneC_no (by decide)) (orC_l oneC_at)))))
  ·exact ca (orC_r (oneC_no (by decide)) (orC_r (oneC_no (by decide)) (orC_r (oneC_no (by decide)) (orC_r (oneC_no (by decide)) (orC_r (oneC_no (by decide)) (orC_l (pureC_at ..)))))))
end
end Go.Proofs.YtiafochainjglaaGreatDoor.drp.pu
end

section
open Go Go.Ax Go.Proofs
namespace Go.Proofs.YtiafochainjglaaGreatDoor.drp.pu
open cd cd2 cd3 cd4 cd5 cd9 oo my fm
open lw (encP encP_len encP_b known_at formatted_no)
open cp (bst bst_next bst_tidy bst_old bst_row blocks_at)
open sh (HH XX sumsP shortsP)
set_option linter.unusedVariables false
section
variable {kb d l m c0 k:Nat} {P:AV} {S S1 X:ASt} {c:Bool} {x y:Nat→Nat} {t:Nat} {mk:Bool} {se nu ho:Nat}
theorem end_yes (e1:S1=S.add (.cells (mL k x c y t mk se nu ho) true)) (D:DV S1.next S1 d l m (9+k) X c0) (hc:c0<100000) (h1:1≤k) (h2:k≤64)
  (m24:∀S,Call1 Tryz.prog 24 [.agg (mL k x c y t mk se nu ho)] S (.bool true,S)) (m11:∀S,Call1 Tryz.prog 11 [.agg (mL k x c y t mk se nu ho)] S (.bool true,S))
  (U:U6 (x 0) (x 1) (x 2) (x 3) (x 4) (x 5)) (hsm:supM (x 0) (x 1) (x 2)=true) (ht:t<18446744073709551616) (hy:∀i,y i<18446744073709551616) (h17:y 17<256) (h18:y 18<256) (hrm:resM (y 0) (y 17) (y 18) (fun i=>y (i+1))=true)
  (hse:se<18446744073709551616) (hnu:nu<18446744073709551616) (hho:ho<65536) (hbey:beyS se k=false) (hms:(mk || decide (se=0))=true) (hnh:(!decide (nu=0) || decide (ho=0))=true) :
  Trip Tryz.prog kb none (dropC 3 cW8) (f8v k d S.next P) X (Left EW8 Tryz.f8 111 S (.bool true)):=by
 obtain⟨las,es,hv⟩:=D
 obtain⟨S2,las2,ck2,hf,hv2,hn2,hk2,hnb2,hl2,hm2⟩:=Dv.flushV hv (by omega) (by omega)
 have hlen:=hv2.len
 have hd2:=hv2.dsk (by omega)
 have hb:=blocks_at hd2 hlen (by omega) (by omega)
 obtain⟨S3,e3⟩:∃Y,Y=bst (nb las2 []) S2 (9+k):=⟨_,rfl⟩
 rw[←e3] at hb
 have ht3:Tidy S3:=by rw[e3];exact bst_tidy _ hv2.tidy _
 have n3:S3.next=S2.next+3*(9+k):=by rw[e3,bst_next]
 have k3:∀k,k<S2.next→S3.h.get k=S2.h.get k:=fun k hk=>by rw[e3];exact bst_old _ _ _ k hk
 have hv3:=hv2.keep (by omega) ht3 k3
 have r3:S3.h.get (S2.next+3*(9+k - 1)+2)=some (.cells (dsk.rowB ((List.range (9+k)).map (nb las2 []))) true):=by rw[e3];exact row_of (by omega)
 -- what is put
 have UKy:UK t (y 0) (y 17) (y 18) (fun i=>y (i+1)):=⟨ht,hy 0,h17,h18,fun i=>hy (i+1)⟩
 have c60:∀S,Call1 Tryz.prog 60 [.agg (sL x c)] S (.tuple [.agg (bl (sB HH x c)),.int .i64 (.ofNat 0)],S):=fun S=>(supOwn sumsP).yes (c:=c) S U hsm
 have c95:∀S,Call1 Tryz.prog 95 [.agg (sL x c)] S (.agg (bl (sB HH x c)),S):=fun S=>(supRef sumsP).blk (c:=c) S U
 have c61:∀S,Call1 Tryz.prog 61 [.agg (rL y),.int .u64 (.ofNat t)] S (.tuple [.agg (bl (kB XX t y)),.int .i64 (.ofNat 0)],S):=fun S=>blkKt shortsP UKy hrm S
 have c96:∀S,Call1 Tryz.prog 96 [.agg (rL y),.int .u64 (.ofNat t)] S (.agg (bl (kB XX t y)),S):=fun S=>atKR shortsP UKy S
 have c62:=fun S=>atMB sumsP hse S
 have c97:=fun S=>atRM sumsP hse S
 have c63:=fun S=>atLB sumsP hnu hho S
 have c98:=fun S=>atRL sumsP hnu hho S
 have b0:byL (sB HH x c):=seal_by sumsP.lt (supL_by _ _ _ _ _ _ _ (by cases c<;>decide))
 have b2:byL (kB XX t y):=resB_by XX _ _ _ _ _
 have b4:byL (sealN HH (mapL se)):=seal_by sumsP.lt (mapL_by se)
 have bL:byL (sealN HH (logL nu ho)):=seal_by sumsP.lt (logL_by nu ho)
 obtain⟨S4,las4,hput,hv4,hnb4,hn4,hk4⟩:=put_ok hv3 hc rfl h1 h2 m24 c60 c61 c62 c63 b0 b2 b4 bL
 obtain⟨PL,ePL⟩:∃L,L=putL mk nu (sB HH x c) (kB XX t y) (sealN HH (mapL se)) (sealN HH (logL nu ho)):=⟨_,rfl⟩
 have lPL:PL.length=9:=by rw[ePL];exact putL_len ..
 have hlen4:=hv4.len
 have hd4:=hv4.dsk (by omega)
 have hb4:=blocks_at hd4 hlen4 (by omega) (by omega)
 obtain⟨S5,e5⟩:∃Y,Y=bst (nb las4 []) S4 (9+k):=⟨_,rfl⟩
 rw[←e5] at hb4
 have ht5:Tidy S5:=by rw[e5];exact bst_tidy _ hv4.tidy _
 have n5:S5.next=S4.next+3*(9+k):=by rw[e5,bst_next]
 have k5:∀k,k<S4.next→S5.h.get k=S4.h.get k:=fun k hk=>by rw[e5];exact bst_old _ _ _ k hk
 have r5:S5.h.get (S4.next+3*(9+k - 1)+2)=some (.cells (dsk.rowB ((List.range (9+k)).map (nb las4 []))) true):=by rw[e5];exact row_of (by omega)
 have hv5:=hv4.keep (by omega) ht5 k5
 have hlm:l<S2.next∧m<S2.next:=by
  obtain⟨ck,hdk⟩:=hv2.dk
  exact⟨hv2.tidy.lt hdk.hl,hv2.tidy.lt hdk.hm⟩
 have r35:S5.h.get (S2.next+3*(9+k - 1)+2)=some (.cells (dsk.rowB ((List.range (9+k)).map (nb las2 []))) true):=(k5 _ (by omega)).trans ((hk4 _ (by omega) (by omega) (by omega)).trans r3)
 obtain⟨Sb,eb⟩:∃Y,Y=ASt.mk S5.h (S5.next+24):=⟨_,rfl⟩
 have nb_:Sb.next=S5.next+24:=by rw[eb]
 have htb:Tidy Sb:=by rw[eb];exact ht5.mk (Nat.le_add_right _ _)
 have kb5:∀k,Sb.h.get k=S5.h.get k:=fun k=>by rw[eb]
 have hvb:=hv5.keep (by omega) htb (fun k _=>kb5 k)
 have hop:Call1 Tryz.prog 42 [.ptr (some (d,0))] Sb (.slice none 0 (.known 0),Sb):=by
  obtain⟨ck,hdk⟩:=hvb.dk
  exact open_ok hdk
 obtain⟨S6,hbk,ht6,n6,r6,k6⟩:=blk_ok (k:=k) (mk:=mk) htb c95 c96 c97 c98
 rw[←ePL] at r6 hnb4
 have hv6:=hvb.keep (by omega) ht6 k6
 have hd6:=hv6.dsk (by omega)
 have r56:S6.h.get (S4.next+3*(9+k - 1)+2)=some (.cells (dsk.rowB ((List.range (9+k)).map (nb las4 []))) true):=(k6 _ (by omega)).trans ((kb5 _).trans r5)
 have r36:S6.h.get (S2.next+3*(9+k - 1)+2)=some (.cells (dsk.rowB ((List.range (9+k)).map (nb las2 []))) true):=(k6 _ (by omega)).trans ((kb5 _).trans r35)
 -- the rows are the same
 have q1:SlR S6 (S4.next+3*(9+k - 1)+2) 0 9 (fun i=>nb las4 [] (0+i)):=slR_of (o:=0) r56 (by omega)
 have q2:SlR S6 (Sb.next+1) 0 9 (fun i=>PL.getD i []):=⟨_,_,r6,fun i hi=>by rw[Nat.zero_add];exact take_blk (by omega)⟩
 have q2':=q2.congr (g':=fun i=>nb las4 [] (0+i)) (fun i hi=>by
  show _=bl (nb las4 [] (0+i))
  rw[Nat.zero_add,hnb4 i (by omega),if_pos hi,bl_blV])
 have hs1:=same_ok (C:=.rest 256) (C2:=.known 9) ht6 q1 q2' (by omega)
 have q3:SlR S6 (S4.next+3*(9+k - 1)+2) 2304 k (fun i=>nb las4 [] (9+i)):=slR_of (o:=9) r56 (by omega)
 have q4:SlR S6 (S2.next+3*(9+k - 1)+2) 2304 k (fun i=>nb las2 [] (9+i)):=slR_of (o:=9) r36 (by omega)
 have q4':=q4.congr (g':=fun i=>nb las4 [] (9+i)) (fun i hi=>by
  show _=bl (nb las4 [] (9+i))
  rw[hnb4 (9+i) (by omega),if_neg (by omega)])
 have hs2:=same_ok (C:=.rest 256) (C2:=.rest 256) ht6 q3 q4' (by omega)
 -- taken again
 have htk:=take_p sumsP shortsP hd6 hlen4 h1 h2
 rw[take_put (b:=nb las4 []) (fun i hi=>by rw[hnb4 i (by omega),if_pos hi,ePL]) U hsm ht (fun i _=>hy i) h17 h18 hrm hse hnu hho hbey hms hnh] at htk
 obtain⟨S7,e7,o7⟩:=(Ov.nil ht6).add (.cells zM true)
 obtain⟨S8,e8,o8⟩:=o7.stA (E:=EW8) (t:=36) (i:=0) (k:=S6.next) (o:=0) (z:=32) (vs:=mL k x c y t mk se nu ho) [] zM [] (by kernel_rfl) (by kernel_rfl) rfl rfl rfl
 have n1:S1.next=S.next+1:=by rw[e1];rfl
 have g1:S1.h.get S.next=some (.cells (mL k x c y t mk se nu ho) true):=by rw[e1];exact add_at
 have g3:S3.h.get S.next=some (.cells (mL k x c y t mk se nu ho) true):=(hv3.same _ (by omega)).trans g1
 have g4:S4.h.get S.next=some (.cells (mL k x c y t mk se nu ho) true):=(hv4.same _ (by omega)).trans g1
 have gb:Sb.h.get S.next=some (.cells (mL k x c y t mk se nu ho) true):=(hvb.same _ (by omega)).trans g1
 have l36:S.next<S6.next:=by have:=hv6.next;omega
 have g8:S8.h.get S.next=some (.cells (mL k x c y t mk se nu ho) true):=(o8.old _ l36).trans ((hv6.same _ (by omega)).trans g1)
 have old:∀j,j<S.next→S8.h.get j=S.h.get j:=fun j hj=>(o8.old j (by omega)).trans ((hv6.same j (by omega)).trans (by rw[e1];exact add_ne (by omega)))
 have ldA:∀{Y:ASt},Y.h.get S.next=some (.cells (mL k x c y t mk se nu ho) true)→aLoad EW8 36 (.ptr (some (S.next,0))) Y=some (.agg (mL k x c y t mk se nu ho),Y):=fun g=>load_agg (z:=32) (by kernel_rfl) g (by kernel_rfl)
 have ld1:aLoad EW8 3 (.ptr (some (S.next,0))) S4=some (.int .i64 (.ofNat k),S4):=load_at (by kernel_rfl) g4 (by kernel_rfl)
 have hok:=orC_ok (oneC_ok hf) (orC_ok (oneC_ok hb) (orC_ok (oneC_ok hput) (orC_ok (oneC_ok hb4) (orC_ok (oneC_ok hop) (orC_ok (oneC_ok hbk) (orC_ok (oneC_ok hs1) (orC_ok (oneC_ok hs2) (orC_ok (oneC_ok htk) (orC_ok (pureC_ok known_at) (pureC_ok m11))))))))))
 subst eb
 refine Trip.ofR EW8ok (onlyC_ok hok) (kf:=[6]) (Q1:=Left EW8 Tryz.f8 111 S (.bool true)) (Eq.mp (vcWy _ k 0 d S.next (S2.next+3*(9+k - 1)+2) (S4.next+3*(9+k - 1)+2) (S5.next+24+1) S6.next (.rest 256) (.rest 256) (.rest 256) (.rest 256) (.rest 256) P t se nu ho x y c mk X S2 S3 S4 S5 S6 S7 S8 (Left EW8 Tryz.f8 111 S (.bool true))) ⟨?_,?_,ldA g3,?_,ld1,?_,ldA g4,?_,?_,?_,sl_hi (by omega),ldA gb,?_,?_,sl_lo h1,sl_lo h1,?_,?_,?_,(Ov.nil ht6).al e7,e8,?_,ldA g8,eqM8,?_,fin8 old⟩) (fun e F Z h=>h)
 ·exact ca (orC_l oneC_at)
 ·exact ca (orC_r (oneC_no (by decide)) (orC_l oneC_at))
 ·exact ca (orC_r (oneC_no (by decide)) (orC_r (oneC_no (by decide)) (orC_l oneC_at)))
 ·rw[neq8,decide_eq_true rfl];rfl
 ·exact ca (orC_r (oneC_no (by decide)) (orC_r (oneC_no (by decide)) (orC_r (oneC_no (by decide)) (orC_r (oneC_no (by decide)) (orC_r (oneC_no (by decide)) (orC_r (oneC_no (by decide)) (orC_r (oneC_no (by decide)) (orC_r (oneC_no (by decide)) (orC_r (oneC_no (by decide)) (orC_r (pureC_no (by decide)) (pureC_at ..)))))))))))
 ·exact ca (orC_r (oneC_no (by decide)) (orC_r (oneC_nn (by omega)) (orC_r (oneC_no (by decide)) (orC_l oneC_at))))
 ·exact ca (orC_r (oneC_no (by decide)) (orC_r (oneC_no (by decide)) (orC_r (oneC_no (by decide)) (orC_r (oneC_no (by decide)) (orC_l oneC_at)))))
 ·exact ca (orC_r (oneC_no (by decide)) (orC_r (oneC_no (by decide)) (orC_r (oneC_no (by decide)) (orC_r (oneC_no (by decide)) (orC_r (oneC_no (by decide)) (orC_l oneC_at))))))
 ·exact ca (orC_r (oneC_no (by decide)) (orC_r (oneC_no (by decide)) (orC_r (oneC_no (by decide)) (orC_r (oneC_no (by decide)) (orC_r (oneC_no (by decide)) (orC_r (oneC_no (by decide)) (orC_l oneC_at)))))))
 ·exact ca (orC_r (oneC_no (by decide)) (orC_r (oneC_no (by decide)) (orC_r (oneC_no (by decide)) (orC_r (oneC_no (by decide)) (orC_r (oneC_no (by decide)) (orC_r (oneC_no (by decide)) (orC_r (oneC_na (by simp)) (orC_l oneC_at))))))))
 ·exact⟨⟨by rw[sl_hi (by omega)];rfl,avEq_refl _⟩,trivial⟩
 ·exact ca (orC_r (oneC_no (by decide)) (orC_r (oneC_no (by decide)) (orC_r (oneC_no (by decide)) (orC_r (oneC_no (by decide)) (orC_r (oneC_no (by decide)) (orC_r (oneC_no (by decide)) (orC_r (oneC_no (by decide)) (orC_r (oneC_no (by decide)) (orC_l oneC_at)))))))))
 ·exact o8.ldA (i:=0) (z:=32) (cs:=mL k x c y t mk se nu ho)
 ·exact ca (orC_r (oneC_no (by decide)) (orC_r (oneC_no (by decide)) (orC_r (oneC_no (by decide)) (orC_r (oneC_no (by decide)) (orC_r (oneC_no (by decide)) (orC_r (oneC_no (by decide)) (orC_r (oneC_no (by decide)) (orC_r (oneC_no (by decide)) (orC_r (oneC_no (by decide)) (orC_l (pureC_at ..)))))))))))
end
end Go.Proofs.YtiafochainjglaaGreatDoor.drp.pu
end

section
open Go Go.Ax Go.Proofs
namespace Go.Proofs.YtiafochainjglaaGreatDoor.drp.pu
open cd cd2 cd3 cd4 cd5 cd9 oo my fm
open lw (encP encP_len encP_b known_at formatted_no)
set_option linter.unusedVariables false
structure Pcs (S:ASt) (P:AV) (ps:List (Int×List Nat)) (pi:Nat) (o:AO):Prop where
 arg:SlArg EW8 51 257 pi ps.length P o (ps.flatMap encP)
 obj:0<ps.length→S.h.get pi=some o∧pi<S.next
 byt:∀p,p∈ps→byL p.2
section
variable {S:ASt} {P:AV} {ps:List (Int×List Nat)} {pi:Nat} {o:AO} {b s:Int} {c:Bool} {x:Nat→Nat} {Z:Nat→Int} {t:Nat} {mk:Bool} {se nu ho:Nat}
theorem end_all {kb d l m c0 k:Nat} {S1 X:ASt} (e1:S1=S.add (.cells (mG b s c x Z t mk se nu ho) true)) (D:DV S1.next S1 d l m (9+k) X c0) (hc:c0<100000) (h1:1≤k) (h2:k≤64)
  (hx:∀i,x i<18446744073709551616) (hZ:∀i,i<17→∃w:Nat,Z i=.ofNat w∧w<18446744073709551616) (ht:t<18446744073709551616) (hse:se<18446744073709551616) (hnu:nu<18446744073709551616) (hho:ho<65536) :
  Trip Tryz.prog kb none (dropC 3 cW8) (f8v k d S.next P) X (Left EW8 Tryz.f8 111 S (.bool true)):=by
 by_cases hb:b=.ofNat k
 ·cases hm:mayG b s x Z mk se nu ho
  ·exact end_no e1 D (by omega) h1 h2 hse (.inr hm)
  ·subst hb
   have hm':=hm
   have hmA:=fun S=>may_any (.ofNat k) s c x Z t mk se nu ho hse S
   rw[hm] at hmA
   unfold mayG at hm'
   simp only[Bool.and_eq_true,Bool.not_eq_true'] at hm'
   obtain⟨_,_,hs,hr,hbey,hms,hnh⟩:=hm'
   obtain⟨n,rfl⟩:∃n:Nat,s=.ofNat n:=by
    match s,hs with
    | .ofNat n,_=>exact⟨n,rfl⟩
    | .negSucc n,h=>cases h
   have hsm:supM n (x 1) (x 2)=true:=hs
   have hn:n<9223372036854775808:=by
    unfold supM at hsm
    simp only[Bool.and_eq_true,decide_eq_true_eq] at hsm
    omega
   obtain⟨⟨a17,z17,b17⟩,a18,z18,b18⟩:=may_bd hr
   obtain⟨y,ey⟩:∃y:Nat→Nat,y=fun i=>if i<19 then (Z i).toNat else 0:=⟨_,rfl⟩
   have hZy:∀i,i<19→Z i=.ofNat (y i)∧y i<18446744073709551616:=fun i hi=>by
    rw[ey]
    simp only[hi,if_true]
    rcases Nat.lt_or_ge i 17 with h | h
    ·obtain⟨w,e,hw⟩:=hZ i h
     rw[e];exact⟨rfl,hw⟩
    ·rcases Nat.lt_or_ge i 18 with h' | h'
     ·obtain rfl:i=17:=by omega
      rw[z17];exact⟨rfl,Nat.lt_trans b17 (by decide)⟩
     ·obtain rfl:i=18:=by omega
      rw[z18];exact⟨rfl,Nat.lt_trans b18 (by decide)⟩
   have hy:∀i,y i<18446744073709551616:=fun i=>by
    rcases Nat.lt_or_ge i 19 with h | h
    ·exact (hZy i h).2
    ·rw[ey];simp only[show ¬i<19 by omega,if_false];decide
   have y17:y 17<256:=by have:=(hZy 17 (by decide)).1;rw[z17] at this;injection this with h;omega
   have y18:y 18<256:=by have:=(hZy 18 (by decide)).1;rw[z18] at this;injection this with h;omega
   have etL:cd6.tL Z=rL y:=tL_nat fun i hi=>(hZy i hi).1
   have hrm:resM (y 0) (y 17) (y 18) (fun i=>y (i+1))=true:=by
    unfold resM
    rw[zOf_y,←etL];exact hr
   have eM:mG (.ofNat k) (.ofNat n) c x Z t mk se nu ho=mL k (fun i=>if i=0 then n else x i) c y t mk se nu ho:=by
    unfold mG mL
    rw[etL];rfl
   rw[eM] at e1 hmA
   have hu:∀i,0<i→(fun i=>if i=0 then n else x i) i<18446744073709551616:=fun i hi=>by
    show (if i=0 then n else x i)<_
    rw[if_neg (by omega)];exact hx i
   exact end_yes (x:=fun i=>if i=0 then n else x i) e1 D hc h1 h2 (fun S=>(hmA S).1) (fun S=>(hmA S).2) ⟨hn,hx 1,hx 2,hx 3,hx 4,hx 5⟩ hsm ht hy y17 y18 hrm hse hnu hho hbey hms hnh
 ·exact end_no e1 D (by omega) h1 h2 hse (.inl hb)
theorem law_c (ht:Tidy S) (hP:Pcs S P ps pi o) (z:Int) (hx:∀i,x i<18446744073709551616) (hZ:∀i,i<17→∃w:Nat,Z i=.ofNat w∧w<18446744073709551616) (htt:t<18446744073709551616) (hse:se<18446744073709551616) (hnu:nu<18446744073709551616) (hho:ho<65536) :
  Call1 Tryz.prog 8 [.int .i64 z,P,.agg (mG b s c x Z t mk se nu ho)] S (.bool true,S):=by
 obtain⟨S1,e1⟩:∃X,X=S.add (.cells (mG b s c x Z t mk se nu ho) true):=⟨_,rfl⟩
 have ht1:Tidy S1:=by rw[e1];exact ht.add
 have n1:S1.next=S.next+1:=by rw[e1];rfl
 have hbox:aBox (.agg (mG b s c x Z t mk se nu ho)) S=some (.ptr (some (S.next,0)),S1):=by rw[e1];rfl
 have old1:∀k,k<S.next→S1.h.get k=S.h.get k:=fun k hk=>by rw[e1];exact add_ne (by omega)
 by_cases hz:z<1∨64<z
 ·have hok:=orC_ok (oneC_ok (formatted_no hz S1)) (pureC_ok known_at)
  exact exD Tryz.f8 cW8 111 [6] EW8ok (onlyC_ok hok) (bool_p ..)
   (Eq.mp (vcW1 _ z P b s c x Z t mk se nu ho S.next S S1 (Left EW8 Tryz.f8 111 S (.bool true))) ⟨hbox,ca (orC_l oneC_at),ca (orC_r (oneC_no (by decide)) (pureC_at ..)),fin8 old1⟩)
 obtain⟨k,rfl⟩:∃k:Nat,z=.ofNat k:=⟨z.toNat,by simp only[Int.ofNat_eq_natCast];omega⟩
 have h1:1≤k:=by simp only[Int.ofNat_eq_natCast] at hz;omega
 have h2:k≤64:=by simp only[Int.ofNat_eq_natCast] at hz;omega
 obtain⟨S2,d,l,m,c0,hf,D1,hc⟩:=formatted_p ht1 h1 h2
 have hsame:∀{Y c},DV S1.next S1 d l m (9+k) Y c→∀k,k<S.next→Y.h.get k=S.h.get k:=fun D j hj=>by obtain⟨las,es,h⟩:=D;exact (h.same j (by omega)).trans (old1 j hj)
 have hok:=orC_ok (oneC_ok hf) (pureC_ok known_at)
 by_cases h30:30<ps.length
 ·exact exD Tryz.f8 cW8 111 [6] EW8ok (onlyC_ok hok) (bool_p ..)
   (Eq.mp (vcW2 _ k ps.length d P b s c x Z t mk se nu ho S.next S S1 S2 (Left EW8 Tryz.f8 111 S (.bool true))) ⟨hbox,ca (orC_l oneC_at),hP.arg.len S2,by rw[gtr8,decide_eq_true h30],ca (orC_r (oneC_no (by decide)) (pureC_at ..)),fin8 (hsame D1)⟩)
 refine Call1.tripDrop EW8ok (fn:=Tryz.f8) (c:=cW8) (by kernel_rfl) (by kernel_rfl) (by kernel_rfl) (N:=111) (by kernel_rfl) (bool_p ..) (by simp[refsD]) ?_
 refine Trip.preR EW8ok (onlyC_ok hok) (k:=2) (kf:=[0,1,5,7]) (by kernel_rfl) (Q1:=fun r=>r=(.normal,f8v k d S.next P,S2)) (Eq.mp (vcW3 _ k ps.length d P b s c x Z t mk se nu ho S.next S S1 S2 (fun r=>r=(.normal,f8v k d S.next P,S2))) ⟨hbox,ca (orC_l oneC_at),hP.arg.len S2,by rw[gtr8,decide_eq_false h30],rfl⟩) ?_ (fun r h1 h2=>absurd (congrArg (·.1) h2) h1)
 rintro F Y hY
 cases hY
 rw[sh8]
 refine Trip.seq (R:=fun r=>r.1=.normal∧r.2.1=f8v k d S.next P∧∃c,DV S1.next S1 d l m (9+k) r.2.2 c∧c<100000) ?_ (fun F Y hr=>?_) (fun e F Y he hr=>absurd hr.1 he)
 ·refine Trip.seq (R:=fun r=>r=(.normal,f8i k d S.next P 0,S2)) (Trip.ofR EW8ok noSum_ok (kf:=[0,1,5,7,8]) (Q1:=fun r=>r=(.normal,f8i k d S.next P 0,S2)) (Eq.mp (vcW4 k d S.next P S2 (fun r=>r=(.normal,f8i k d S.next P 0,S2))) rfl) (fun e F Y h=>h)) (fun F Y hr=>?_) (fun e F Y he hr=>by cases hr;exact absurd rfl he)
  cases hr
  refine Trip.block (Trip.loop (fun mm fr st=>∃i,i≤ps.length∧mm=ps.length - i∧fr=f8i k d S.next P i∧DV S1.next S1 d l m (9+k) st (c0+i)) ?_ ps.length ⟨0,Nat.zero_le _,rfl,rfl,D1⟩)
  rintro mm fr st ⟨i,hi,rfl,rfl,Di⟩
  have hq:CallsOK Tryz.prog (evC S1.next S1 d l m (9+k)):=evC_ok
  by_cases h:i<ps.length
  ·obtain⟨p,hp⟩:∃p,ps[i]? = some p:=⟨ps[i],List.getElem?_eq_getElem h⟩
   have Db:DV S1.next S1 d l m (9+k) (ASt.mk st.h (st.next+12)) (c0+i):=Di.keep (Nat.le_add_right _ _) (Di.tidy.mk (Nat.le_add_right _ _)) (fun _ _=>rfl)
   have hob:(ASt.mk st.h (st.next+12)).h.get pi=some (.cells (ps.flatMap encP) false):=by
    obtain⟨q1,q2⟩:=hP.obj (by omega)
    have:=hsame Db pi q2
    rw[this,q1,hP.arg.obj (by omega)]
   have hby:byL p.2:=hP.byt p (List.mem_of_getElem? hp)
   obtain⟨e,S',hw,hg⟩:∃e S',evC S1.next S1 d l m (9+k) 19 [.ptr (some (d,0)),.int .i64 p.1,.agg (bl p.2)] (ASt.mk st.h (st.next+12))=some (.int .i64 e,S')∧DV S1.next S1 d l m (9+k) S' (c0+i+1):=by
    by_cases ha:p.1<0∨((9+k:Nat):Int)≤p.1
    ·obtain⟨S',w1,w2⟩:=Db.wn (b:=p.2) ha
     exact⟨_,S',w1,w2.2.2.2 _ Db⟩
    ·obtain⟨j,hj⟩:∃j:Nat,p.1=.ofNat j:=⟨p.1.toNat,by simp only[Int.ofNat_eq_natCast];omega⟩
     obtain⟨S',w1,w2⟩:=Db.wr (i:=j) (b:=p.2) (by omega) (by rw[hj] at ha;simp only[Int.ofNat_eq_natCast] at ha;omega) hby
     rw[←hj] at w1
     exact⟨_,S',w1,w2.2.2.2 _ Db⟩
   refine Trip.ofR EW8ok (onlyC_ok hq) (kf:=[0,1,5,7,8]) (Q1:=fun r=>r=(.normal,f8i k d S.next P (i+1),S')) (Eq.mp (vcWb (evC S1.next S1 d l m (9+k)) k ps.length d i pi S.next p.1 e p.2 P st S' (fun r=>r=(.normal,f8i k d S.next P (i+1),S')))
    ⟨hP.arg.len st,by rw[lss8,decide_eq_true h],still_of (hP.arg.idx i .i64 h),load_at (by kernel_rfl) hob (by rw[Nat.zero_add];exact fm_get encP_len hp rfl),still_of (hP.arg.idx i .i64 h),load_agg (by kernel_rfl) hob (encP_b hp),ca hw,trivial,add8 (by omega),rfl⟩) (fun e F Y hr=>?_)
   cases hr
   exact⟨ps.length - (i+1),f8i k d S.next P (i+1),S',by omega,Wk.refl _ _ _,i+1,h,rfl,rfl,hg⟩
  ·have:i=ps.length:=by omega
   subst this
   refine Trip.ofR EW8ok (onlyC_ok hq) (kf:=[0,1,5,7]) (Q1:=fun r=>r=(.exit 0,f8v k d S.next P,st)) (Eq.mp (vcWx (evC S1.next S1 d l m (9+k)) k ps.length d ps.length S.next P st (fun r=>r=(.exit 0,f8v k d S.next P,st))) ⟨hP.arg.len st,by rw[lss8,decide_eq_false h],rfl⟩) (fun e F Y hr=>?_)
   cases hr
   exact⟨fun _=>⟨rfl,rfl,_,Di,by omega⟩,fun h=>absurd rfl h⟩
 ·obtain⟨_,g2,c',D',hc'⟩:=hr
  simp only at g2
  subst g2
  exact end_all e1 D' hc' h1 h2 hx hZ htt hse hnu hho
end
end Go.Proofs.YtiafochainjglaaGreatDoor.drp.pu
end
