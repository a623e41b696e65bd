/-
  OWN WORK, A PART: an abstract machine for the program's text that the kernel can run, and the proof that it is sound: what it answers is what the program answers; contracts of functions by it. No condition.
-/
import Derived.Test.YtcboepooglaogaaGreatDoorXtB
import Derived.KernelRfl
import Derived.Test.YtcboepooglaogaaGreatDoorXtC
section
open Go Go.Ax Go.Proofs
namespace Go.Proofs.YtcboepooglaogaaGreatDoor.scr
set_option linter.unusedVariables false
open spt
noncomputable def fnsSu:List (Nat×Func):=[(4,Tryz.f4),(14,Tryz.f14),(17,Tryz.f17),(18,Tryz.f18),(19,Tryz.f19),(20,Tryz.f20),(21,Tryz.f21),(22,Tryz.f22),(23,Tryz.f23),(54,Tryz.f54),(56,Tryz.f56),(57,Tryz.f57),(58,Tryz.f58),(59,Tryz.f59),(60,Tryz.f60),(61,Tryz.f61),(62,Tryz.f62),(63,Tryz.f63),(64,Tryz.f64)]
noncomputable def ESu:Env:=envEx Tryz.prog [0,3,4,5,9,20,21,22,32,33,42,43,44,45,46,47,48,49,50,51,53,55,63,86,118,120,121,123,124,125,127,128,218,220,269] fnsSu []
noncomputable def c4:Code:=Option.getD Tryz.f4.body .skip
noncomputable def c18:Code:=Option.getD Tryz.f18.body .skip
noncomputable def c19:Code:=Option.getD Tryz.f19.body .skip
noncomputable def L18a:Code:=lopB (blkB (seqR (seqL (dropC 4 c18))))
noncomputable def L18b:Code:=lopB (blkB (seqR (seqL (dropC 8 c18))))
noncomputable def suo0:Oper:=Oper.mk (some 1) (Op.buildSlice 86 8 #[(0,Operand.const (Value.string (ByteArray.mk #[100,105,115,99,111,110,110,101,99,116]))),(1,Operand.const (Value.string (ByteArray.mk #[121,111,117,110,103,101,114]))),(2,Operand.const (Value.string (ByteArray.mk #[111,108,100,101,114]))),(3,Operand.const (Value.string (ByteArray.mk #[108,101,97,115,116]))),(4,Operand.const (Value.string (ByteArray.mk #[122,101,114,111]))),(5,Operand.const (Value.string (ByteArray.mk #[111,110,101]))),(6,Operand.const (Value.string (ByteArray.mk #[115,101,99,111,110,100,97,114,121]))),(7,Operand.const (Value.string (ByteArray.mk #[99,111,110,115,101,110,115,117,115])))]) 86 "ref.go:36" #[] none
noncomputable def suo1:Oper:=Oper.mk (some 1) (Op.buildSlice 86 8 #[(0,Operand.const (Value.string (ByteArray.mk #[100,105,115,99,111,110,110,101,99,116]))),(1,Operand.const (Value.string (ByteArray.mk #[121,111,117,110,103,101,114]))),(2,Operand.const (Value.string (ByteArray.mk #[111,108,100,101,114]))),(3,Operand.const (Value.string (ByteArray.mk #[108,101,97,115,116]))),(4,Operand.const (Value.string (ByteArray.mk #[122,101,114,111]))),(5,Operand.const (Value.string (ByteArray.mk #[111,110,101]))),(6,Operand.const (Value.string (ByteArray.mk #[115,101,99,111,110,100,97,114,121]))),(7,Operand.const (Value.string (ByteArray.mk #[99,111,110,115,101,110,115,117,115])))]) 86 "script.go:112" #[] none
noncomputable def suo2:Oper:=Oper.mk (some 16) (Op.buildSlice 86 1 #[(0,Operand.const (Value.string (ByteArray.mk #[115,116,97,103,101])))]) 86 "script.go:285" #[] none
noncomputable def suo3:Oper:=Oper.mk (some 41) (Op.buildSlice 86 3 #[(0,Operand.const (Value.string (ByteArray.mk #[97]))),(1,Operand.const (Value.string (ByteArray.mk #[98]))),(2,Operand.const (Value.string (ByteArray.mk #[99])))]) 86 "ref.go:280" #[] none
noncomputable def suo4:Oper:=Oper.mk (some 45) (Op.buildSlice 86 2 #[(0,Operand.const (Value.string (ByteArray.mk #[112,108,97,105,110]))),(1,Operand.const (Value.string (ByteArray.mk #[100,105,103,101,115,116,115])))]) 86 "script.go:291" #[] none
noncomputable def suo5:Oper:=Oper.mk (some 48) (Op.buildSlice 86 3 #[(0,Operand.const (Value.string (ByteArray.mk #[102,114,101,101]))),(1,Operand.const (Value.string (ByteArray.mk #[114,101,115,111,117,114,99,101]))),(2,Operand.const (Value.string (ByteArray.mk #[115,116,111,110,105,116,104])))]) 86 "ref.go:281" #[] none
noncomputable def suo6:Oper:=Oper.mk (some 52) (Op.buildSlice 86 3 #[(0,Operand.const (Value.string (ByteArray.mk #[97]))),(1,Operand.const (Value.string (ByteArray.mk #[98]))),(2,Operand.const (Value.string (ByteArray.mk #[99])))]) 86 "script.go:292" #[] none
noncomputable def suo7:Oper:=Oper.mk (some 58) (Op.buildSlice 86 3 #[(0,Operand.const (Value.string (ByteArray.mk #[102,114,101,101]))),(1,Operand.const (Value.string (ByteArray.mk #[114,101,115,111,117,114,99,101]))),(2,Operand.const (Value.string (ByteArray.mk #[115,116,111,110,105,116,104])))]) 86 "script.go:293" #[] none
noncomputable def suo8:Oper:=Oper.mk (some 8) (Op.buildSlice 86 12 #[(0,Operand.const (Value.string (ByteArray.mk #[]))),(1,Operand.const (Value.string (ByteArray.mk #[]))),(2,Operand.const (Value.string (ByteArray.mk #[]))),(3,Operand.const (Value.string (ByteArray.mk #[]))),(4,Operand.const (Value.string (ByteArray.mk #[]))),(5,Operand.const (Value.string (ByteArray.mk #[]))),(6,Operand.const (Value.string (ByteArray.mk #[]))),(7,Operand.const (Value.string (ByteArray.mk #[]))),(8,Operand.const (Value.string (ByteArray.mk #[]))),(9,Operand.const (Value.string (ByteArray.mk #[]))),(10,Operand.const (Value.string (ByteArray.mk #[]))),(11,Operand.const (Value.string (ByteArray.mk #[])))]) 86 "ref.go:276" #[] none
noncomputable def sub0 (q:CallT) (fr:AFr) (st:ASt):Option (AV×ASt):=aOp ESu (M ESu (drawA ESu) (onlyC [55,56,57,58,59,21,54] q) 56).call (M ESu (drawA ESu) (onlyC [55,56,57,58,59,21,54] q) 56).round suo2 fr st
noncomputable def sub1 (q:CallT) (fr:AFr) (st:ASt):Option (AV×ASt):=aOp ESu (M ESu (drawA ESu) (onlyC [55,56,57,58,59,21,54] q) 58).call (M ESu (drawA ESu) (onlyC [55,56,57,58,59,21,54] q) 58).round suo4 fr st
noncomputable def sub2 (q:CallT) (fr:AFr) (st:ASt):Option (AV×ASt):=aOp ESu (M ESu (drawA ESu) (onlyC [55,56,57,58,59,21,54] q) 57).call (M ESu (drawA ESu) (onlyC [55,56,57,58,59,21,54] q) 57).round suo6 fr st
noncomputable def sub3 (q:CallT) (fr:AFr) (st:ASt):Option (AV×ASt):=aOp ESu (M ESu (drawA ESu) (onlyC [55,56,57,58,59,21,54] q) 57).call (M ESu (drawA ESu) (onlyC [55,56,57,58,59,21,54] q) 57).round suo7 fr st
noncomputable def sub4 (q:CallT) (fr:AFr) (st:ASt):Option (AV×ASt):=aOp ESu (M ESu (drawA ESu) (onlyC [60,61,62,63,64,20,23] q) 57).call (M ESu (drawA ESu) (onlyC [60,61,62,63,64,20,23] q) 57).round suo8 fr st
noncomputable def sub5 (q:CallT) (fr:AFr) (st:ASt):Option (AV×ASt):=aOp ESu (M ESu (drawA ESu) (onlyC [60,61,62,63,64,20,23] q) 57).call (M ESu (drawA ESu) (onlyC [60,61,62,63,64,20,23] q) 57).round suo3 fr st
noncomputable def sub6 (q:CallT) (fr:AFr) (st:ASt):Option (AV×ASt):=aOp ESu (M ESu (drawA ESu) (onlyC [60,61,62,63,64,20,23] q) 57).call (M ESu (drawA ESu) (onlyC [60,61,62,63,64,20,23] q) 57).round suo5 fr st
noncomputable def sub7 (fr:AFr) (st:ASt):Option (AV×ASt):=aOp ESu (M ESu (drawA ESu) noSum 56).call (M ESu (drawA ESu) noSum 56).round suo1 fr st
noncomputable def sub8 (fr:AFr) (st:ASt):Option (AV×ASt):=aOp ESu (M ESu (drawA ESu) noSum 56).call (M ESu (drawA ESu) noSum 56).round suo0 fr st
noncomputable abbrev kSqM_9 (a b c d e f g:Nat) (h:CallT):=TM ESu (onlyC [a,b,c,d,e,f,g] h) [] fl0 60
noncomputable def tYa (q:CallT) (k w x r n a1 j0:Nat) (u:List Nat) (S S1 S2 S3 S4 S5 S6:ASt):Tr (Exit×AFr×ASt):=(kSqM_9 55 56 57 58 59 21 54 q).ex ⟨[2,12,14,16,17,5,34,35,36,39,40,42,77,78,85,45,46,47,52,53,58,59,79,82,83,87,92,97,99,102,103,107,108,110,113,4094,4095],[],[],[]⟩ none (preC 4 c18) {m:=putArgs [.str u] 0 .e,n:=114,defs:=[]} S
noncomputable abbrev kSqM_21 (a:List Nat) (b c d e f:Nat):=xFr [(0,.str a),(2,.ptr (some (b,0))),(4,.ptr (some (c,0))),(5,.ptr (some (d,0))),(6,.ptr (some (d,0))),(31,.slice (some (e,0)) 4 (.known 4)),(32,.int .i64 (.ofNat 4)),(33,.int .i64 (.ofNat f))] 114
noncomputable def tYc (q:CallT) (k w x a i n:Nat) (u:List Nat) (S S1 S2:ASt):Tr (Exit×AFr×ASt):=(kSqM_9 55 56 57 58 59 21 54 q).ex ⟨[2,12,14,16,17,5,34,35,36,39,40,42,77,78,85,45,46,47,52,53,58,59,79,82,83,87,92,97,99,102,103,107,108,110,113,4094,4095],[],[],[]⟩ none L18a (kSqM_21 u k w x a i) S
noncomputable def tYd (k w x a i:Nat) (u:List Nat) (S:ASt):Tr (Exit×AFr×ASt):=(TM ESu noSum [] fl0 60).ex ⟨[2,12,14,16,17,5,34,35,36,39,40,42,77,78,85,45,46,47,52,53,58,59,79,82,83,87,92,97,99,102,103,107,108,110,113,4094,4095],[],[],[]⟩ none L18a (kSqM_21 u k w x a i) S
noncomputable def tYe (q:CallT) (k w x a1 a2 a3 j5 j6 j7:Nat) (g:Bool) (u:List Nat) (S S1 S2 S3 S4 S5 S6 S7 S8 S9:ASt):Tr (Exit×AFr×ASt):=(kSqM_9 55 56 57 58 59 21 54 q).ex ⟨[2,12,14,16,17,5,34,35,36,39,40,42,77,78,85,45,46,47,52,53,58,59,79,82,83,87,92,97,99,102,103,107,108,110,113,4094,4095],[],[],[]⟩ none (preC 2 (dropC 5 c18)) (xFr [(0,.str u),(2,.ptr (some (k,0))),(4,.ptr (some (w,0))),(5,.ptr (some (x,0))),(6,.ptr (some (x,0)))] 114) S
noncomputable def tYg (q:CallT) (k w x a a4 i j:Nat) (u:List Nat) (S S1 S2 S3:ASt):Tr (Exit×AFr×ASt):=(kSqM_9 55 56 57 58 59 21 54 q).ex ⟨[2,12,14,16,17,5,34,35,36,39,40,42,77,78,85,45,46,47,52,53,58,59,79,82,83,87,92,97,99,102,103,107,108,110,113,4094,4095],[],[],[]⟩ none L18b (xFr [(0,.str u),(2,.ptr (some (k,0))),(4,.ptr (some (w,0))),(5,.ptr (some (x,0))),(74,.slice (some (a,0)) 3 (.known 3)),(75,.int .i64 (.ofNat 3)),(76,.int .i64 (.ofNat i))] 114) S
noncomputable def tYh (k w x a i:Nat) (u:List Nat) (S:ASt):Tr (Exit×AFr×ASt):=(TM ESu noSum [] fl0 60).ex ⟨[2,12,14,16,17,5,34,35,36,39,40,42,77,78,85,45,46,47,52,53,58,59,79,82,83,87,92,97,99,102,103,107,108,110,113,4094,4095],[],[],[]⟩ none L18b (xFr [(0,.str u),(2,.ptr (some (k,0))),(4,.ptr (some (w,0))),(5,.ptr (some (x,0))),(74,.slice (some (a,0)) 3 (.known 3)),(75,.int .i64 (.ofNat 3)),(76,.int .i64 (.ofNat i))] 114) S
noncomputable abbrev kSqM_10 (a:List Nat) (b c d:Nat):=xFr [(0,.str a),(2,.ptr (some (b,0))),(4,.ptr (some (c,0))),(5,.ptr (some (d,0)))] 114
noncomputable def tYi (q:CallT) (k w x:Nat) (u:List Nat) (A:AV) (S S1 S2:ASt):Tr (Exit×AFr×ASt):=(kSqM_9 55 56 57 58 59 21 54 q).ex ⟨[2,12,14,16,17,5,34,35,36,39,40,42,77,78,85,45,46,47,52,53,58,59,79,82,83,87,92,97,99,102,103,107,108,110,113,4094,4095],[],[],[]⟩ none (seqL (dropC 9 c18)) (kSqM_10 u k w x) S
noncomputable def tYj (q:CallT) (k w x:Nat) (u:List Nat) (S S1:ASt):Tr (Exit×AFr×ASt):=(kSqM_9 55 56 57 58 59 21 54 q).ex ⟨[2,12,14,16,17,5,34,35,36,39,40,42,77,78,85,45,46,47,52,53,58,59,79,82,83,87,92,97,99,102,103,107,108,110,113,4094,4095],[],[],[]⟩ none (dropC 10 c18) (kSqM_10 u k w x) S
noncomputable def tYk (q:CallT) (k w x:Nat) (u:List Nat) (r oo m:Nat) (S S1:ASt):Tr (Exit×AFr×ASt):=(kSqM_9 55 56 57 58 59 21 54 q).ex ⟨[2,12,14,16,17,5,34,35,36,39,40,42,77,78,85,45,46,47,52,53,58,59,79,82,83,87,92,97,99,102,103,107,108,110,113,4094,4095],[],[],[]⟩ none (dropC 10 c18) (kSqM_10 u k w x) S
noncomputable def tYl (q:CallT) (k w x:Nat) (u:List Nat) (r oo m:Nat) (b h c ww p f z o t:Int) (dig:Bool) (A:AV) (S S1:ASt):Tr (Exit×AFr×ASt):=(kSqM_9 55 56 57 58 59 21 54 q).ex ⟨[2,12,14,16,17,5,34,35,36,39,40,42,77,78,85,45,46,47,52,53,58,59,79,82,83,87,92,97,99,102,103,107,108,110,113,4094,4095],[],[],[]⟩ none (dropC 10 c18) (kSqM_10 u k w x) S
noncomputable def tYm (q:CallT) (k w x:Nat) (u:List Nat) (r oo m:Nat) (b h c ww p f z o t:Int) (dig:Bool) (A:AV) (v:List Nat) (S S1:ASt):Tr (Exit×AFr×ASt):=(kSqM_9 55 56 57 58 59 21 54 q).ex ⟨[2,12,14,16,17,5,34,35,36,39,40,42,77,78,85,45,46,47,52,53,58,59,79,82,83,87,92,97,99,102,103,107,108,110,113,4094,4095],[],[],[]⟩ none (dropC 10 c18) (kSqM_10 u k w x) S
noncomputable def tYn (q:CallT) (k w x:Nat) (u:List Nat) (r oo m:Nat) (b h c ww p f z o t:Int) (dig:Bool) (A:AV) (v:List Nat) (S S1:ASt):Tr (Exit×AFr×ASt):=(kSqM_9 55 56 57 58 59 21 54 q).ex ⟨[2,12,14,16,17,5,34,35,36,39,40,42,77,78,85,45,46,47,52,53,58,59,79,82,83,87,92,97,99,102,103,107,108,110,113,4094,4095],[],[],[]⟩ none (dropC 10 c18) (kSqM_10 u k w x) S
noncomputable def tFa (q:CallT) (k x r r2 a n n2:Nat) (u:List Nat) (S S1 S2 S3 S4 S5 S6:ASt):Tr (Exit×AFr×ASt):=(kSqM_9 60 61 62 63 64 20 23 q).ex ⟨[2,7,8,9,5,12,13,14,16,17,18,20,21,22,24,25,26,36,37,38,41,43,44,45,48,50,51,52,55,57,58,59,60,62,63,64,65,67,68,69,74,75,76,78,79,82,83,85,88,4094,4095],[],[],[]⟩ none (preC 2 c19) {m:=putArgs [.str u] 0 .e,n:=89,defs:=[]} S
noncomputable abbrev kSqM_15 (a:List Nat) (b c d e:Nat):=xFr [(0,.str a),(2,.ptr (some (b,0))),(4,.slice (some (c,0)) d (.rest 1)),(5,.ptr (some (e,0)))] 89
noncomputable def tFb (q:CallT) (k x r n:Nat) (u:List Nat) (u1 u2 u3 u4:List Nat) (n1 n2 n3 n4:Nat) (S S1 S2 S3 S4:ASt):Tr (Exit×AFr×ASt):=(kSqM_9 60 61 62 63 64 20 23 q).ex ⟨[2,7,8,9,5,12,13,14,16,17,18,20,21,22,24,25,26,36,37,38,41,43,44,45,48,50,51,52,55,57,58,59,60,62,63,64,65,67,68,69,74,75,76,78,79,82,83,85,88,4094,4095],[],[],[]⟩ none (seqL (dropC 2 c19)) (kSqM_15 u k r n x) S
noncomputable def tFc (q:CallT) (k x r n:Nat) (u:List Nat) (u5 u6 u7:List Nat) (g:Bool) (a1 a2 j6 j7:Nat) (S S1 S2 S3 S4 S5:ASt):Tr (Exit×AFr×ASt):=(kSqM_9 60 61 62 63 64 20 23 q).ex ⟨[2,7,8,9,5,12,13,14,16,17,18,20,21,22,24,25,26,36,37,38,41,43,44,45,48,50,51,52,55,57,58,59,60,62,63,64,65,67,68,69,74,75,76,78,79,82,83,85,88,4094,4095],[],[],[]⟩ none (preC 2 (dropC 3 c19)) (kSqM_15 u k r n x) S
noncomputable def tFd (q:CallT) (k x r n:Nat) (u:List Nat) (u8 u9 ua:List Nat) (a1 a2 a3 j8 j9 ja:Nat) (S S1 S2 S3 S4:ASt):Tr (Exit×AFr×ASt):=(kSqM_9 60 61 62 63 64 20 23 q).ex ⟨[2,7,8,9,5,12,13,14,16,17,18,20,21,22,24,25,26,36,37,38,41,43,44,45,48,50,51,52,55,57,58,59,60,62,63,64,65,67,68,69,74,75,76,78,79,82,83,85,88,4094,4095],[],[],[]⟩ none (seqL (dropC 6 c19)) (kSqM_15 u k r n x) S
noncomputable def tFe (q:CallT) (k x r n:Nat) (u:List Nat) (ub:List Nat) (A:AV) (S S1 S2:ASt):Tr (Exit×AFr×ASt):=(kSqM_9 60 61 62 63 64 20 23 q).ex ⟨[2,7,8,9,5,12,13,14,16,17,18,20,21,22,24,25,26,36,37,38,41,43,44,45,48,50,51,52,55,57,58,59,60,62,63,64,65,67,68,69,74,75,76,78,79,82,83,85,88,4094,4095],[],[],[]⟩ none (seqL (dropC 7 c19)) (kSqM_15 u k r n x) S
noncomputable def tFfr (q:CallT) (k x:Nat) (u:List Nat) (b h c ww p f z o t:Int) (dig:Bool) (A:AV) (S S1:ASt):Tr (Exit×AFr×ASt):=(kSqM_9 60 61 62 63 64 20 23 q).ex ⟨[2,7,8,9,5,12,13,14,16,17,18,20,21,22,24,25,26,36,37,38,41,43,44,45,48,50,51,52,55,57,58,59,60,62,63,64,65,67,68,69,74,75,76,78,79,82,83,85,88,4094,4095],[],[],[]⟩ none (dropC 8 c19) (xFr [(0,.str u),(2,.ptr (some (k,0))),(5,.ptr (some (x,0)))] 89) S
noncomputable def tFgr (q:CallT) (k x:Nat) (u:List Nat) (b h c ww p f z o t:Int) (dig:Bool) (A:AV) (v:List Nat) (S S1:ASt):Tr (Exit×AFr×ASt):=(kSqM_9 60 61 62 63 64 20 23 q).ex ⟨[2,7,8,9,5,12,13,14,16,17,18,20,21,22,24,25,26,36,37,38,41,43,44,45,48,50,51,52,55,57,58,59,60,62,63,64,65,67,68,69,74,75,76,78,79,82,83,85,88,4094,4095],[],[],[]⟩ none (dropC 8 c19) (xFr [(0,.str u),(2,.ptr (some (k,0))),(5,.ptr (some (x,0)))] 89) S
noncomputable def tFhr (q:CallT) (k x:Nat) (u:List Nat) (b h c ww p f z o t:Int) (dig:Bool) (A:AV) (v:List Nat) (S S1:ASt):Tr (Exit×AFr×ASt):=(kSqM_9 60 61 62 63 64 20 23 q).ex ⟨[2,7,8,9,5,12,13,14,16,17,18,20,21,22,24,25,26,36,37,38,41,43,44,45,48,50,51,52,55,57,58,59,60,62,63,64,65,67,68,69,74,75,76,78,79,82,83,85,88,4094,4095],[],[],[]⟩ none (dropC 8 c19) (xFr [(0,.str u),(2,.ptr (some (k,0))),(5,.ptr (some (x,0)))] 89) S
noncomputable abbrev kSqM_14 (a b c d:Int) (e:Bool) (f g h i j:Int) (k:AV):List AV:=[.int .i64 a,.int .i64 b,.int .i64 c,.int .i64 d,.bool e,.int .i64 f,.int .i64 g,.int .i64 h,.int .i64 i,.int .i64 j,k]
noncomputable def tQa (q:CallT) (k1 k2 n:Nat) (b h c ww p f z o t:Int) (dig:Bool) (A B:AV) (v:List Nat) (S S1 S2:ASt):Tr (AV×ASt):=(TM ESu (onlyC [67] q) [(22,⟨[2,3,6,8,9,12,13,15,16,17,21,22,24,25,26],[],[],[]⟩)] fl0 60).call 22 [.agg (kSqM_14 b h c ww dig p f z o t A),.agg (kSqM_14 b h c ww dig p f z o t B)] S
noncomputable def tQn (z:Int) (S:ASt):Tr (AV×ASt):=(TM ESu noSum [] fl0 60).call 14 [.int .i64 z] S
noncomputable def tQc (a:Nat) (S S1:ASt):Tr (AV×ASt):=(TM ESu noSum [(58,⟨[1],[],[],[]⟩)] fl0 60).call 58 [] S
noncomputable def tQd (a:Nat) (S S1:ASt):Tr (AV×ASt):=(TM ESu noSum [(63,⟨[1],[],[],[]⟩)] fl0 60).call 63 [] S
noncomputable abbrev kSqM_12 (a:CallT):=TM ESu (onlyC [14,15,17,18,19,20,21,22,23] a) [] fl0 60
noncomputable def tLa (q:CallT) (k n:Nat) (b h c ww p f z o t:Int) (dig:Bool) (A:AV) (u:List Nat) (S S1:ASt):Tr (Exit×AFr×ASt):=(kSqM_12 q).ex ⟨[2,13,14,15,18,19,21,23,24,29,7,34,9,37,38,39,40,42,44,45,46,51,52,54,61,62,68,71,72,75,78,79,80,83,84,87,4094,4095],[],[],[]⟩ none (preC 1 c4) {m:=putArgs [.agg (kSqM_14 b h c ww dig p f z o t A),.str u] 0 .e,n:=89,defs:=[]} S
noncomputable def tLb (q:CallT) (k n m:Nat) (b h c ww p f z o t:Int) (dig:Bool) (A:AV) (u:List Nat) (S S1:ASt):Tr (Exit×AFr×ASt):=(kSqM_12 q).ex ⟨[2,13,14,15,18,19,21,23,24,29,7,34,9,37,38,39,40,42,44,45,46,51,52,54,61,62,68,71,72,75,78,79,80,83,84,87,4094,4095],[],[],[]⟩ none (preC 1 c4) {m:=putArgs [.agg (kSqM_14 b h c ww dig p f z o t A),.str u] 0 .e,n:=89,defs:=[]} S
noncomputable def tLc (k n m:Nat) (b h c ww p f z o t:Int) (dig:Bool) (A:AV) (u:List Nat) (S S1:ASt):Tr (Exit×AFr×ASt):=(TM ESu noSum [] fl0 60).ex ⟨[2,13,14,15,18,19,21,23,24,29,7,34,9,37,38,39,40,42,44,45,46,51,52,54,61,62,68,71,72,75,78,79,80,83,84,87,4094,4095],[],[],[]⟩ none (preC 1 c4) {m:=putArgs [.agg (kSqM_14 b h c ww dig p f z o t A),.str u] 0 .e,n:=89,defs:=[]} S
noncomputable def tLd (q:CallT) (k k7 k9:Nat) (e f2:Int) (ok may:Bool) (b h c ww p f z o t:Int) (dig:Bool) (A:AV) (u:List Nat) (x:List Nat) (y:St) (C D:AV) (S S2 S3 S4 S5 S6 S7:ASt):Tr (Exit×AFr×ASt):=(kSqM_12 q).ex ⟨[2,13,14,15,18,19,21,23,24,29,7,34,9,37,38,39,40,42,44,45,46,51,52,54,61,62,68,71,72,75,78,79,80,83,84,87,4094,4095],[],[],[]⟩ none (preC 3 (dropC 1 c4)) (xFr [(1,.str u),(2,.ptr (some (k,0)))] 89) S
noncomputable def tLe (q:CallT) (k k7 k9:Nat) (e f2:Int) (may may2:Bool) (b h c ww p f z o t:Int) (dig:Bool) (A:AV) (u:List Nat) (x:List Nat) (y:St) (C D:AV) (S:ASt):Tr (Exit×AFr×ASt):=(kSqM_12 q).ex ⟨[2,13,14,15,18,19,21,23,24,29,7,34,9,37,38,39,40,42,44,45,46,51,52,54,61,62,68,71,72,75,78,79,80,83,84,87,4094,4095],[],[],[]⟩ none (seqL (dropC 5 c4)) (xFr [(2,.ptr (some (k,0))),(5,.str x),(6,.int .i64 e),(7,.ptr (some (k7,0))),(8,.int .i64 f2),(9,.ptr (some (k9,0))),(10,.bool true),(11,.bool may)] 89) S
noncomputable def tLf (q:CallT) (k k7 k9:Nat) (e f2:Int) (may may2:Bool) (b h c ww p f z o t:Int) (dig:Bool) (A:AV) (u:List Nat) (x:List Nat) (y:St) (C D:AV) (S:ASt):Tr (Exit×AFr×ASt):=(kSqM_12 q).ex ⟨[2,13,14,15,18,19,21,23,24,29,7,34,9,37,38,39,40,42,44,45,46,51,52,54,61,62,68,71,72,75,78,79,80,83,84,87,4094,4095],[],[],[]⟩ none (seqL (dropC 5 c4)) (xFr [(2,.ptr (some (k,0))),(5,.str x),(6,.int .i64 e),(7,.ptr (some (k7,0))),(8,.int .i64 f2),(9,.ptr (some (k9,0))),(10,.bool false),(11,.bool may)] 89) S
noncomputable def tLg (q:CallT) (k:Nat) (e:Int) (x:List Nat) (S:ASt):Tr (Exit×AFr×ASt):=(kSqM_12 q).ex ⟨[2,13,14,15,18,19,21,23,24,29,7,34,9,37,38,39,40,42,44,45,46,51,52,54,61,62,68,71,72,75,78,79,80,83,84,87,4094,4095],[],[],[]⟩ none (dropC 6 c4) (xFr [(2,.ptr (some (k,0))),(5,.str x),(6,.int .i64 e),(11,.bool false)] 89) S
noncomputable def tLh (q:CallT) (k:Nat) (e:Int) (b h c ww p f z o t:Int) (dig:Bool) (A:AV) (u:List Nat) (x v:List Nat) (S:ASt):Tr (Exit×AFr×ASt):=(kSqM_12 q).ex ⟨[2,13,14,15,18,19,21,23,24,29,7,34,9,37,38,39,40,42,44,45,46,51,52,54,61,62,68,71,72,75,78,79,80,83,84,87,4094,4095],[],[],[]⟩ none (dropC 6 c4) (xFr [(2,.ptr (some (k,0))),(5,.str x),(6,.int .i64 e),(11,.bool true)] 89) S
noncomputable abbrev kSqM_6 (a b c d e f g:Nat) (h:CallT) (i:Nat):=M ESu (drawA ESu) (onlyC [a,b,c,d,e,f,g] h) i
noncomputable abbrev kSqM_19 (a b c:Nat):List AV:=[AV.ptr (some (a,0)),AV.slice (some (b,0)) c (Cap.known c)]
theorem vcYa (q:CallT) (k:Nat) (w:Nat) (x:Nat) (r:Nat) (n:Nat) (a1:Nat) (j0:Nat) (u:List Nat) (S:ASt) (S1:ASt) (S2:ASt) (S3:ASt) (S4:ASt) (S5:ASt) (S6:ASt) (Q:Exit×AFr×ASt→Prop) :
 Vq (tYa q k w x r n a1 j0 u S S1 S2 S3 S4 S5 S6) (fun r=>Q (rawR [0,2,4,5,6] r)) (aa (aAlloc ESu 51 S) (AV.ptr (some (k,0)),S1) (aa ((kSqM_6 55 56 57 58 59 21 54 q 57).call 55 [AV.str u,AV.str [32]] S1) (AV.slice (some (r,0)) n (Cap.known n),S2) (aa (aBox (AV.agg [AV.slice (some (r,0)) n (Cap.known n),AV.bool false]) S2) (AV.ptr (some (w,0)),S3) (aa (sub0 q (xFr [] 114) S3) (AV.slice (some (a1,0)) 1 (Cap.known 1),S4) (aa ((kSqM_6 55 56 57 58 59 21 54 q 56).call 56 (kSqM_19 w a1 1) S4) (AV.int IntKind.i64 (Int.ofNat j0),S5) (aa (aAlloc ESu 51 S5) (AV.ptr (some (x,0)),S6) (aq (Q (Exit.normal,xFr [(0,AV.str u),(2,AV.ptr (some (k,0))),(4,AV.ptr (some (w,0))),(5,AV.ptr (some (x,0))),(6,AV.ptr (some (x,0)))] 114,S6))))))))):=vq (by kernel_rfl)
noncomputable abbrev kSqM_3 (a:Nat):=AV.int IntKind.i64 (Int.ofNat a)
noncomputable abbrev kSqM_18 (a b c d:Nat) (e:ASt):=aStore ESu a (AV.ptr (some (b,c))) (kSqM_3 d) e
noncomputable abbrev kSqM_24 (a b c:Nat):=AV.slice (some (a,b)) c (Cap.known c)
theorem vcYc (q:CallT) (k:Nat) (w:Nat) (x:Nat) (a:Nat) (i:Nat) (n:Nat) (u:List Nat) (S:ASt) (S1:ASt) (S2:ASt) (Q:Exit×AFr×ASt→Prop) :
 Vq (tYc q k w x a i n u S S1 S2) (fun r=>Q (rawR [0,2,4,5,6,31,32,33] r)) (as_ S (aBin ESu BinOp.lss 3 (Operand.tmp 33) (Operand.tmp 32) (kSqM_3 i) (kSqM_3 4)) (AV.bool true) (as_ S (aIndexAddr ESu 125 (kSqM_24 a 0 4) (kSqM_3 i)) (AV.ptr (some (a,i*1))) (al (aLoad ESu 124 (AV.ptr (some (a,i*1)))) S (AV.ptr (some (x,i))) (aa ((kSqM_6 55 56 57 58 59 21 54 q 54).call 57 [AV.ptr (some (w,0)),AV.int IntKind.u64 (Int.ofNat 1000000)] S) (AV.int IntKind.u64 (Int.ofNat n),S1) (al (aConvert ESu 22 3 (AV.int IntKind.u64 (Int.ofNat n))) S1 (kSqM_3 n) (aa (Option.map (fun s=>(undefA,s)) (kSqM_18 3 x i n S1)) (AV.tuple [],S2) (as_ S2 (aBin ESu BinOp.add 3 (Operand.tmp 33) (Operand.const (Value.int IntKind.i64 1)) (kSqM_3 i) (kSqM_3 1)) (AV.int IntKind.i64 (Int.ofNat (i+1))) (aq (Q (Exit.normal,xFr [(0,AV.str u),(2,AV.ptr (some (k,0))),(4,AV.ptr (some (w,0))),(5,AV.ptr (some (x,0))),(6,AV.ptr (some (x,0))),(31,AV.slice (some (a,0)) 4 (Cap.known 4)),(32,AV.int IntKind.i64 (Int.ofNat 4)),(33,AV.int IntKind.i64 (Int.ofNat (i+1)))] 114,S2)))))))))):=vq (by kernel_rfl)
theorem vcYd (k:Nat) (w:Nat) (x:Nat) (a:Nat) (i:Nat) (u:List Nat) (S:ASt) (Q:Exit×AFr×ASt→Prop) :
 Vq (tYd k w x a i u S) (fun r=>Q (rawR [0,2,4,5,6] r)) (as_ S (aBin ESu BinOp.lss 3 (Operand.tmp 33) (Operand.tmp 32) (kSqM_3 i) (kSqM_3 4)) (AV.bool false) (aq (Q (Exit.exit 0,xFr [(0,AV.str u),(2,AV.ptr (some (k,0))),(4,AV.ptr (some (w,0))),(5,AV.ptr (some (x,0))),(6,AV.ptr (some (x,0)))] 114,S)))):=vq (by kernel_rfl)
theorem vcYe (q:CallT) (k:Nat) (w:Nat) (x:Nat) (a1:Nat) (a2:Nat) (a3:Nat) (j5:Nat) (j6:Nat) (j7:Nat) (g:Bool) (u:List Nat) (S:ASt) (S1:ASt) (S2:ASt) (S3:ASt) (S4:ASt) (S5:ASt) (S6:ASt) (S7:ASt) (S8:ASt) (S9:ASt) (Q:Exit×AFr×ASt→Prop) :
 Vq (tYe q k w x a1 a2 a3 j5 j6 j7 g u S S1 S2 S3 S4 S5 S6 S7 S8 S9) (fun r=>Q (rawR [0,2,4,5,6] r)) (aa (sub1 q (xFr [] 114) S) (AV.slice (some (a1,0)) 2 (Cap.known 2),S1) (aa ((kSqM_6 55 56 57 58 59 21 54 q 58).call 56 (kSqM_19 w a1 2) S1) (AV.int IntKind.i64 (Int.ofNat j5),S2) (as_ S2 (aBin ESu BinOp.eql 3 (Operand.tmp 46) (Operand.const (Value.int IntKind.i64 2)) (kSqM_3 j5) (kSqM_3 2)) (AV.bool g) (aa (Option.map (fun s=>(undefA,s)) (aStore ESu 4 (AV.ptr (some (x,4))) (AV.bool g) S2)) (AV.tuple [],S3) (aa (sub2 q (xFr [] 114) S3) (AV.slice (some (a2,0)) 3 (Cap.known 3),S4) (aa ((kSqM_6 55 56 57 58 59 21 54 q 57).call 56 (kSqM_19 w a2 3) S4) (AV.int IntKind.i64 (Int.ofNat j6),S5) (aa (Option.map (fun s=>(undefA,s)) (kSqM_18 42 x 5 j6 S5)) (AV.tuple [],S6) (aa (sub3 q (xFr [] 114) S6) (AV.slice (some (a3,0)) 3 (Cap.known 3),S7) (aa ((kSqM_6 55 56 57 58 59 21 54 q 57).call 56 (kSqM_19 w a3 3) S7) (AV.int IntKind.i64 (Int.ofNat j7),S8) (aa (Option.map (fun s=>(undefA,s)) (kSqM_18 43 x 6 j7 S8)) (AV.tuple [],S9) (aq (Q (Exit.normal,xFr [(0,AV.str u),(2,AV.ptr (some (k,0))),(4,AV.ptr (some (w,0))),(5,AV.ptr (some (x,0))),(6,AV.ptr (some (x,0)))] 114,S9))))))))))))):=vq (by kernel_rfl)
theorem vcYg (q:CallT) (k:Nat) (w:Nat) (x:Nat) (a:Nat) (a4:Nat) (i:Nat) (j:Nat) (u:List Nat) (S:ASt) (S1:ASt) (S2:ASt) (S3:ASt) (Q:Exit×AFr×ASt→Prop) :
 Vq (tYg q k w x a a4 i j u S S1 S2 S3) (fun r=>Q (rawR [0,2,4,5,74,75,76] r)) (as_ S (aBin ESu BinOp.lss 3 (Operand.tmp 76) (Operand.tmp 75) (kSqM_3 i) (kSqM_3 3)) (AV.bool true) (as_ S (aIndexAddr ESu 128 (kSqM_24 a 0 3) (kSqM_3 i)) (AV.ptr (some (a,i*1))) (al (aLoad ESu 127 (AV.ptr (some (a,i*1)))) S (AV.ptr (some (x,7+i))) (aa ((kSqM_6 55 56 57 58 59 21 54 q 54).call 58 [] S) (AV.slice (some (a4,0)) 8 (Cap.known 8),S1) (aa ((kSqM_6 55 56 57 58 59 21 54 q 54).call 56 (kSqM_19 w a4 8) S1) (AV.int IntKind.i64 (Int.ofNat j),S2) (aa (Option.map (fun s=>(undefA,s)) (aStore ESu 44 (AV.ptr (some (x,7+i))) (kSqM_3 j) S2)) (AV.tuple [],S3) (as_ S3 (aBin ESu BinOp.add 3 (Operand.tmp 76) (Operand.const (Value.int IntKind.i64 1)) (kSqM_3 i) (kSqM_3 1)) (AV.int IntKind.i64 (Int.ofNat (i+1))) (aq (Q (Exit.normal,xFr [(0,AV.str u),(2,AV.ptr (some (k,0))),(4,AV.ptr (some (w,0))),(5,AV.ptr (some (x,0))),(74,AV.slice (some (a,0)) 3 (Cap.known 3)),(75,AV.int IntKind.i64 (Int.ofNat 3)),(76,AV.int IntKind.i64 (Int.ofNat (i+1)))] 114,S3)))))))))):=vq (by kernel_rfl)
theorem vcYh (k:Nat) (w:Nat) (x:Nat) (a:Nat) (i:Nat) (u:List Nat) (S:ASt) (Q:Exit×AFr×ASt→Prop) :
 Vq (tYh k w x a i u S) (fun r=>Q (rawR [0,2,4,5] r)) (as_ S (aBin ESu BinOp.lss 3 (Operand.tmp 76) (Operand.tmp 75) (kSqM_3 i) (kSqM_3 3)) (AV.bool false) (aq (Q (Exit.exit 2,xFr [(0,AV.str u),(2,AV.ptr (some (k,0))),(4,AV.ptr (some (w,0))),(5,AV.ptr (some (x,0)))] 114,S)))):=vq (by kernel_rfl)
theorem vcYi (q:CallT) (k:Nat) (w:Nat) (x:Nat) (u:List Nat) (A:AV) (S:ASt) (S1:ASt) (S2:ASt) (Q:Exit×AFr×ASt→Prop) :
 Vq (tYi q k w x u A S S1 S2) (fun r=>Q (rawR [0,2,4,5] r)) (aa ((kSqM_6 55 56 57 58 59 21 54 q 59).call 59 [AV.ptr (some (w,0)),AV.int IntKind.u64 (Int.ofNat 18446744073709551615)] S) (A,S1) (aa (Option.map (fun s=>(undefA,s)) (aStore ESu 49 (AV.ptr (some (x,10))) A S1)) (AV.tuple [],S2) (aq (Q (Exit.normal,xFr [(0,AV.str u),(2,AV.ptr (some (k,0))),(4,AV.ptr (some (w,0))),(5,AV.ptr (some (x,0)))] 114,S2))))):=vq (by kernel_rfl)
noncomputable abbrev kSqM_2 (a:Nat) (b:ASt):=aStore ESu 51 (AV.ptr (some (a,0))) (AV.agg [AV.int IntKind.i64 (Int.ofNat 0),AV.int IntKind.i64 (Int.ofNat 0),AV.int IntKind.i64 (Int.ofNat 0),AV.int IntKind.i64 (Int.ofNat 0),AV.bool false,AV.int IntKind.i64 (Int.ofNat 0),AV.int IntKind.i64 (Int.ofNat 0),AV.int IntKind.i64 (Int.ofNat 0),AV.int IntKind.i64 (Int.ofNat 0),AV.int IntKind.i64 (Int.ofNat 0),AV.slice none 0 (Cap.known 0)]) b
noncomputable abbrev kSqM_4 (a b c:Nat):=aLoad ESu a (AV.ptr (some (b,c)))
theorem vcYj (q:CallT) (k:Nat) (w:Nat) (x:Nat) (u:List Nat) (S:ASt) (S1:ASt) (Q:Exit×AFr×ASt→Prop) :
 Vq (tYj q k w x u S S1) (fun r=>Q (rawR [2,3] r)) (al (kSqM_4 4 w 1) S (AV.bool true) (aa (Option.map (fun s=>(undefA,s)) (kSqM_2 k S)) (AV.tuple [],S1) (aq (Q (Exit.ret,xFr [(2,AV.ptr (some (k,0))),(3,AV.int IntKind.i64 (Int.ofNat 4))] 114,S1))))):=vq (by kernel_rfl)
noncomputable abbrev kSqM_16:=Operand.const (Value.int IntKind.i64 0)
theorem vcYk (q:CallT) (k:Nat) (w:Nat) (x:Nat) (u:List Nat) (r:Nat) (oo:Nat) (m:Nat) (S:ASt) (S1:ASt) (Q:Exit×AFr×ASt→Prop) :
 Vq (tYk q k w x u r oo m S S1) (fun r=>Q (rawR [2,3] r)) (al (kSqM_4 4 w 1) S (AV.bool false) (al (kSqM_4 86 w 0) S (kSqM_24 r oo m) (as_ S (aBin ESu BinOp.gtr 3 (Operand.tmp 98) kSqM_16 (kSqM_3 m) (kSqM_3 0)) (AV.bool true) (aa (Option.map (fun s=>(undefA,s)) (kSqM_2 k S)) (AV.tuple [],S1) (aq (Q (Exit.ret,xFr [(2,AV.ptr (some (k,0))),(3,AV.int IntKind.i64 (Int.ofNat 4))] 114,S1))))))):=vq (by kernel_rfl)
noncomputable abbrev kSqM_0 (a b c d:Int) (e:Bool) (f g h i j:Int) (k:AV):List AV:=[AV.int IntKind.i64 a,AV.int IntKind.i64 b,AV.int IntKind.i64 c,AV.int IntKind.i64 d,AV.bool e,AV.int IntKind.i64 f,AV.int IntKind.i64 g,AV.int IntKind.i64 h,AV.int IntKind.i64 i,AV.int IntKind.i64 j,k]
noncomputable abbrev kSqM_20 (a b c d:Int) (e:Bool) (f g h i j:Int) (k:AV):=AV.agg (kSqM_0 a b c d e f g h i j k)
theorem vcYl (q:CallT) (k:Nat) (w:Nat) (x:Nat) (u:List Nat) (r:Nat) (oo:Nat) (m:Nat) (b:Int) (h:Int) (c:Int) (ww:Int) (p:Int) (f:Int) (z:Int) (o:Int) (t:Int) (dig:Bool) (A:AV) (S:ASt) (S1:ASt) (Q:Exit×AFr×ASt→Prop) :
 Vq (tYl q k w x u r oo m b h c ww p f z o t dig A S S1) (fun r=>Q (rawR [2,3] r)) (al (kSqM_4 4 w 1) S (AV.bool false) (al (kSqM_4 86 w 0) S (kSqM_24 r oo m) (as_ S (aBin ESu BinOp.gtr 3 (Operand.tmp 98) kSqM_16 (kSqM_3 m) (kSqM_3 0)) (AV.bool false) (al (kSqM_4 51 x 0) S (kSqM_20 b h c ww dig p f z o t A) (al ((kSqM_6 55 56 57 58 59 21 54 q 57).call 21 [AV.agg (kSqM_0 b h c ww dig p f z o t A)]) S (AV.bool false) (aa (Option.map (fun s=>(undefA,s)) (kSqM_2 k S)) (AV.tuple [],S1) (aq (Q (Exit.ret,xFr [(2,AV.ptr (some (k,0))),(3,AV.int IntKind.i64 (Int.ofNat 4))] 114,S1))))))))):=vq (by kernel_rfl)
theorem vcYm (q:CallT) (k:Nat) (w:Nat) (x:Nat) (u:List Nat) (r:Nat) (oo:Nat) (m:Nat) (b:Int) (h:Int) (c:Int) (ww:Int) (p:Int) (f:Int) (z:Int) (o:Int) (t:Int) (dig:Bool) (A:AV) (v:List Nat) (S:ASt) (S1:ASt) (Q:Exit×AFr×ASt→Prop) :
 Vq (tYm q k w x u r oo m b h c ww p f z o t dig A v S S1) (fun r=>Q (rawR [2,3] r)) (al (kSqM_4 4 w 1) S (AV.bool false) (al (kSqM_4 86 w 0) S (kSqM_24 r oo m) (as_ S (aBin ESu BinOp.gtr 3 (Operand.tmp 98) kSqM_16 (kSqM_3 m) (kSqM_3 0)) (AV.bool false) (al (kSqM_4 51 x 0) S (kSqM_20 b h c ww dig p f z o t A) (al ((kSqM_6 55 56 57 58 59 21 54 q 57).call 21 [AV.agg (kSqM_0 b h c ww dig p f z o t A)]) S (AV.bool true) (al (kSqM_4 51 x 0) S (kSqM_20 b h c ww dig p f z o t A) (al ((kSqM_6 55 56 57 58 59 21 54 q 57).call 54 [AV.agg (kSqM_0 b h c ww dig p f z o t A)]) S (AV.str v) (as_ S (aBin ESu BinOp.neq 9 (Operand.tmp 108) (Operand.tmp 109) (AV.str v) (AV.str u)) (AV.bool true) (aa (Option.map (fun s=>(undefA,s)) (kSqM_2 k S)) (AV.tuple [],S1) (aq (Q (Exit.ret,xFr [(2,AV.ptr (some (k,0))),(3,AV.int IntKind.i64 (Int.ofNat 4))] 114,S1)))))))))))):=vq (by kernel_rfl)
theorem vcYn (q:CallT) (k:Nat) (w:Nat) (x:Nat) (u:List Nat) (r:Nat) (oo:Nat) (m:Nat) (b:Int) (h:Int) (c:Int) (ww:Int) (p:Int) (f:Int) (z:Int) (o:Int) (t:Int) (dig:Bool) (A:AV) (v:List Nat) (S:ASt) (S1:ASt) (Q:Exit×AFr×ASt→Prop) :
 Vq (tYn q k w x u r oo m b h c ww p f z o t dig A v S S1) (fun r=>Q (rawR [2,3] r)) (al (kSqM_4 4 w 1) S (AV.bool false) (al (kSqM_4 86 w 0) S (kSqM_24 r oo m) (as_ S (aBin ESu BinOp.gtr 3 (Operand.tmp 98) kSqM_16 (kSqM_3 m) (kSqM_3 0)) (AV.bool false) (al (kSqM_4 51 x 0) S (kSqM_20 b h c ww dig p f z o t A) (al ((kSqM_6 55 56 57 58 59 21 54 q 57).call 21 [AV.agg (kSqM_0 b h c ww dig p f z o t A)]) S (AV.bool true) (al (kSqM_4 51 x 0) S (kSqM_20 b h c ww dig p f z o t A) (al ((kSqM_6 55 56 57 58 59 21 54 q 57).call 54 [AV.agg (kSqM_0 b h c ww dig p f z o t A)]) S (AV.str v) (as_ S (aBin ESu BinOp.neq 9 (Operand.tmp 108) (Operand.tmp 109) (AV.str v) (AV.str u)) (AV.bool false) (al (kSqM_4 51 x 0) S (kSqM_20 b h c ww dig p f z o t A) (aa (Option.map (fun s=>(undefA,s)) (aStore ESu 51 (AV.ptr (some (k,0))) (kSqM_20 b h c ww dig p f z o t A) S)) (AV.tuple [],S1) (aq (Q (Exit.ret,xFr [(2,AV.ptr (some (k,0))),(3,AV.int IntKind.i64 (Int.ofNat 0))] 114,S1))))))))))))):=vq (by kernel_rfl)
theorem vcFa (q:CallT) (k:Nat) (x:Nat) (r:Nat) (r2:Nat) (a:Nat) (n:Nat) (n2:Nat) (u:List Nat) (S:ASt) (S1:ASt) (S2:ASt) (S3:ASt) (S4:ASt) (S5:ASt) (S6:ASt) (Q:Exit×AFr×ASt→Prop) :
 Vq (tFa q k x r r2 a n n2 u S S1 S2 S3 S4 S5 S6) (fun r=>Q (rawR [0,2,4,5] r)) (aa (aAlloc ESu 51 S) (AV.ptr (some (k,0)),S1) (aa ((kSqM_6 60 61 62 63 64 20 23 q 57).call 60 [AV.str u,AV.int IntKind.u8 (Int.ofNat 32)] S1) (AV.slice (some (r,0)) n (Cap.rest 1),S2) (aa (sub4 q (xFr [] 89) S2) (AV.slice (some (a,0)) 12 (Cap.known 12),S3) (aa (aBuiltinM ESu Builtin.append [86,86] [AV.slice (some (r,0)) n (Cap.rest 1),AV.slice (some (a,0)) 12 (Cap.known 12)] S3) (AV.slice (some (r2,0)) n2 (Cap.rest 1),S4) (aa (aAlloc ESu 51 S4) (AV.ptr (some (x,0)),S5) (aa (Option.map (fun s=>(undefA,s)) (kSqM_2 x S5)) (AV.tuple [],S6) (aq (Q (Exit.normal,xFr [(0,AV.str u),(2,AV.ptr (some (k,0))),(4,AV.slice (some (r2,0)) n2 (Cap.rest 1)),(5,AV.ptr (some (x,0)))] 89,S6))))))))):=vq (by kernel_rfl)
noncomputable abbrev kSqM_7 (a b c:Nat):=aIndexAddr ESu 86 (AV.slice (some (a,0)) b (Cap.rest 1)) (kSqM_3 c)
noncomputable abbrev kSqM_17 (a:ASt) (b:Nat):=ASt.mk a.h (a.next+b)
noncomputable abbrev kSqM_11 (a b:Nat) (c:ASt) (d:Nat):=aLoad ESu 9 (AV.ptr (some (a,b))) (kSqM_17 c d)
noncomputable abbrev kSqM_23 (a:List Nat):List AV:=[AV.str a,AV.int IntKind.i64 (Int.ofNat 1000000)]
theorem vcFb (q:CallT) (k:Nat) (x:Nat) (r:Nat) (n:Nat) (u:List Nat) (u1:List Nat) (u2:List Nat) (u3:List Nat) (u4:List Nat) (n1:Nat) (n2:Nat) (n3:Nat) (n4:Nat) (S:ASt) (S1:ASt) (S2:ASt) (S3:ASt) (S4:ASt) (Q:Exit×AFr×ASt→Prop) :
 Vq (tFb q k x r n u u1 u2 u3 u4 n1 n2 n3 n4 S S1 S2 S3 S4) (fun r=>Q (rawR [0,2,4,5] r)) (as_ (kSqM_17 S 28) (kSqM_7 r n 1) (AV.ptr (some (r,1))) (al (kSqM_4 9 r 1) (kSqM_17 S 28) (AV.str u1) (al ((kSqM_6 60 61 62 63 64 20 23 q 59).call 61 (kSqM_23 u1)) (kSqM_17 S 28) (kSqM_3 n1) (as_ (kSqM_17 S 28) (kSqM_7 r n 2) (AV.ptr (some (r,2))) (al (kSqM_4 9 r 2) (kSqM_17 S 28) (AV.str u2) (al ((kSqM_6 60 61 62 63 64 20 23 q 59).call 61 (kSqM_23 u2)) (kSqM_17 S 28) (kSqM_3 n2) (as_ (kSqM_17 S 28) (kSqM_7 r n 3) (AV.ptr (some (r,3))) (al (kSqM_4 9 r 3) (kSqM_17 S 28) (AV.str u3) (al ((kSqM_6 60 61 62 63 64 20 23 q 59).call 61 (kSqM_23 u3)) (kSqM_17 S 28) (kSqM_3 n3) (as_ (kSqM_17 S 28) (kSqM_7 r n 4) (AV.ptr (some (r,4))) (al (kSqM_4 9 r 4) (kSqM_17 S 28) (AV.str u4) (al ((kSqM_6 60 61 62 63 64 20 23 q 59).call 61 (kSqM_23 u4)) (kSqM_17 S 28) (kSqM_3 n4) (aa (Option.map (fun s=>(undefA,s)) (aStore ESu 3 (AV.ptr (some (x,0))) (kSqM_3 n1) (kSqM_17 S 28))) (AV.tuple [],S1) (aa (Option.map (fun s=>(undefA,s)) (kSqM_18 3 x 1 n2 S1)) (AV.tuple [],S2) (aa (Option.map (fun s=>(undefA,s)) (kSqM_18 3 x 2 n3 S2)) (AV.tuple [],S3) (aa (Option.map (fun s=>(undefA,s)) (kSqM_18 3 x 3 n4 S3)) (AV.tuple [],S4) (ah (holdsO [(fstO (kSqM_11 r 2 S 28),AV.str u2),(fstO (kSqM_11 r 3 S 28),AV.str u3),(fstO (kSqM_11 r 3 S 28),AV.str u3),(fstO (kSqM_11 r 4 S 28),AV.str u4),(fstO (kSqM_11 r 4 S 28),AV.str u4),(fstO (kSqM_11 r 4 S 28),AV.str u4)]) (aq (Q (Exit.normal,xFr [(0,AV.str u),(2,AV.ptr (some (k,0))),(4,AV.slice (some (r,0)) n (Cap.rest 1)),(5,AV.ptr (some (x,0)))] 89,S4)))))))))))))))))))):=vq (by kernel_rfl)
noncomputable abbrev kSqM_22 (a b:Nat) (c:List Nat):List AV:=[AV.slice (some (a,0)) b (Cap.known b),AV.str c]
theorem vcFc (q:CallT) (k:Nat) (x:Nat) (r:Nat) (n:Nat) (u:List Nat) (u5:List Nat) (u6:List Nat) (u7:List Nat) (g:Bool) (a1:Nat) (a2:Nat) (j6:Nat) (j7:Nat) (S:ASt) (S1:ASt) (S2:ASt) (S3:ASt) (S4:ASt) (S5:ASt) (Q:Exit×AFr×ASt→Prop) :
 Vq (tFc q k x r n u u5 u6 u7 g a1 a2 j6 j7 S S1 S2 S3 S4 S5) (fun r=>Q (rawR [0,2,4,5] r)) (as_ S (kSqM_7 r n 5) (AV.ptr (some (r,5))) (al (kSqM_4 9 r 5) S (AV.str u5) (as_ S (aBin ESu BinOp.eql 9 (Operand.tmp 37) (Operand.const (Value.string (ByteArray.mk #[100,105,103,101,115,116,115]))) (AV.str u5) (AV.str [100,105,103,101,115,116,115])) (AV.bool g) (aa (Option.map (fun s=>(undefA,s)) (aStore ESu 4 (AV.ptr (some (x,4))) (AV.bool g) S)) (AV.tuple [],S1) (aa (sub5 q (xFr [] 89) S1) (AV.slice (some (a1,0)) 3 (Cap.known 3),S2) (as_ S2 (kSqM_7 r n 6) (AV.ptr (some (r,6))) (al (kSqM_4 9 r 6) S2 (AV.str u6) (al ((kSqM_6 60 61 62 63 64 20 23 q 57).call 62 (kSqM_22 a1 3 u6)) S2 (kSqM_3 j6) (aa (Option.map (fun s=>(undefA,s)) (kSqM_18 42 x 5 j6 S2)) (AV.tuple [],S3) (aa (sub6 q (xFr [] 89) S3) (AV.slice (some (a2,0)) 3 (Cap.known 3),S4) (as_ S4 (kSqM_7 r n 7) (AV.ptr (some (r,7))) (al (kSqM_4 9 r 7) S4 (AV.str u7) (al ((kSqM_6 60 61 62 63 64 20 23 q 57).call 62 (kSqM_22 a2 3 u7)) S4 (kSqM_3 j7) (aa (Option.map (fun s=>(undefA,s)) (kSqM_18 43 x 6 j7 S4)) (AV.tuple [],S5) (aq (Q (Exit.normal,xFr [(0,AV.str u),(2,AV.ptr (some (k,0))),(4,AV.slice (some (r,0)) n (Cap.rest 1)),(5,AV.ptr (some (x,0)))] 89,S5))))))))))))))))):=vq (by kernel_rfl)
theorem vcFd (q:CallT) (k:Nat) (x:Nat) (r:Nat) (n:Nat) (u:List Nat) (u8:List Nat) (u9:List Nat) (ua:List Nat) (a1:Nat) (a2:Nat) (a3:Nat) (j8:Nat) (j9:Nat) (ja:Nat) (S:ASt) (S1:ASt) (S2:ASt) (S3:ASt) (S4:ASt) (Q:Exit×AFr×ASt→Prop) :
 Vq (tFd q k x r n u u8 u9 ua a1 a2 a3 j8 j9 ja S S1 S2 S3 S4) (fun r=>Q (rawR [0,2,4,5] r)) (aa ((kSqM_6 60 61 62 63 64 20 23 q 59).call 63 [] (kSqM_17 S 19)) (AV.slice (some (a1,0)) 8 (Cap.known 8),S1) (as_ S1 (kSqM_7 r n 8) (AV.ptr (some (r,8))) (al (kSqM_4 9 r 8) S1 (AV.str u8) (al ((kSqM_6 60 61 62 63 64 20 23 q 59).call 62 (kSqM_22 a1 8 u8)) S1 (kSqM_3 j8) (aa ((kSqM_6 60 61 62 63 64 20 23 q 59).call 63 [] S1) (AV.slice (some (a2,0)) 8 (Cap.known 8),S2) (as_ S2 (kSqM_7 r n 9) (AV.ptr (some (r,9))) (al (kSqM_4 9 r 9) S2 (AV.str u9) (al ((kSqM_6 60 61 62 63 64 20 23 q 59).call 62 (kSqM_22 a2 8 u9)) S2 (kSqM_3 j9) (aa ((kSqM_6 60 61 62 63 64 20 23 q 59).call 63 [] S2) (AV.slice (some (a3,0)) 8 (Cap.known 8),S3) (as_ S3 (kSqM_7 r n 10) (AV.ptr (some (r,10))) (al (kSqM_4 9 r 10) S3 (AV.str ua) (al ((kSqM_6 60 61 62 63 64 20 23 q 59).call 62 (kSqM_22 a3 8 ua)) S3 (kSqM_3 ja) (aa (Option.map (fun s=>(undefA,s)) (aStore ESu 46 (AV.ptr (some (x,7))) (AV.agg [AV.int IntKind.i64 (Int.ofNat j8),AV.int IntKind.i64 (Int.ofNat j9),AV.int IntKind.i64 (Int.ofNat ja)]) S3)) (AV.tuple [],S4) (ah (holdsO [(fstO (kSqM_11 r 8 S 19),AV.str u8),(fstO (kSqM_11 r 9 S 19),AV.str u9),(fstO (aLoad ESu 9 (AV.ptr (some (r,9))) S1),AV.str u9),(fstO (aLoad ESu 9 (AV.ptr (some (r,9))) S1),AV.str u9),(fstO (kSqM_11 r 10 S 19),AV.str ua),(fstO (aLoad ESu 9 (AV.ptr (some (r,10))) S1),AV.str ua),(fstO (aLoad ESu 9 (AV.ptr (some (r,10))) S1),AV.str ua),(fstO (aLoad ESu 9 (AV.ptr (some (r,10))) S2),AV.str ua),(fstO (aLoad ESu 9 (AV.ptr (some (r,10))) S2),AV.str ua)]) (aq (Q (Exit.normal,xFr [(0,AV.str u),(2,AV.ptr (some (k,0))),(4,AV.slice (some (r,0)) n (Cap.rest 1)),(5,AV.ptr (some (x,0)))] 89,S4))))))))))))))))):=vq (by kernel_rfl)
theorem vcFe (q:CallT) (k:Nat) (x:Nat) (r:Nat) (n:Nat) (u:List Nat) (ub:List Nat) (A:AV) (S:ASt) (S1:ASt) (S2:ASt) (Q:Exit×AFr×ASt→Prop) :
 Vq (tFe q k x r n u ub A S S1 S2) (fun r=>Q (rawR [0,2,5] r)) (as_ S (kSqM_7 r n 11) (AV.ptr (some (r,11))) (al (kSqM_4 9 r 11) S (AV.str ub) (aa ((kSqM_6 60 61 62 63 64 20 23 q 59).call 64 [AV.str ub,AV.int IntKind.u64 (Int.ofNat 18446744073709551615)] S) (A,S1) (aa (Option.map (fun s=>(undefA,s)) (aStore ESu 49 (AV.ptr (some (x,10))) A S1)) (AV.tuple [],S2) (aq (Q (Exit.normal,xFr [(0,AV.str u),(2,AV.ptr (some (k,0))),(5,AV.ptr (some (x,0)))] 89,S2))))))):=vq (by kernel_rfl)
theorem vcFfr (q:CallT) (k:Nat) (x:Nat) (u:List Nat) (b:Int) (h:Int) (c:Int) (ww:Int) (p:Int) (f:Int) (z:Int) (o:Int) (t:Int) (dig:Bool) (A:AV) (S:ASt) (S1:ASt) (Q:Exit×AFr×ASt→Prop) :
 Vq (tFfr q k x u b h c ww p f z o t dig A S S1) (fun r=>Q (rawR [2,3] r)) (al (kSqM_4 51 x 0) S (kSqM_20 b h c ww dig p f z o t A) (al ((kSqM_6 60 61 62 63 64 20 23 q 57).call 20 [AV.agg (kSqM_0 b h c ww dig p f z o t A)]) S (AV.bool false) (aa (Option.map (fun s=>(undefA,s)) (kSqM_2 k S)) (AV.tuple [],S1) (aq (Q (Exit.ret,xFr [(2,AV.ptr (some (k,0))),(3,AV.bool false)] 89,S1)))))):=vq (by kernel_rfl)
theorem vcFgr (q:CallT) (k:Nat) (x:Nat) (u:List Nat) (b:Int) (h:Int) (c:Int) (ww:Int) (p:Int) (f:Int) (z:Int) (o:Int) (t:Int) (dig:Bool) (A:AV) (v:List Nat) (S:ASt) (S1:ASt) (Q:Exit×AFr×ASt→Prop) :
 Vq (tFgr q k x u b h c ww p f z o t dig A v S S1) (fun r=>Q (rawR [2,3] r)) (al (kSqM_4 51 x 0) S (kSqM_20 b h c ww dig p f z o t A) (al ((kSqM_6 60 61 62 63 64 20 23 q 57).call 20 [AV.agg (kSqM_0 b h c ww dig p f z o t A)]) S (AV.bool true) (al (kSqM_4 51 x 0) S (kSqM_20 b h c ww dig p f z o t A) (al ((kSqM_6 60 61 62 63 64 20 23 q 57).call 23 [AV.agg (kSqM_0 b h c ww dig p f z o t A)]) S (AV.str v) (as_ S (aBin ESu BinOp.neq 9 (Operand.tmp 83) (Operand.tmp 84) (AV.str v) (AV.str u)) (AV.bool true) (aa (Option.map (fun s=>(undefA,s)) (kSqM_2 k S)) (AV.tuple [],S1) (aq (Q (Exit.ret,xFr [(2,AV.ptr (some (k,0))),(3,AV.bool false)] 89,S1))))))))):=vq (by kernel_rfl)
theorem vcFhr (q:CallT) (k:Nat) (x:Nat) (u:List Nat) (b:Int) (h:Int) (c:Int) (ww:Int) (p:Int) (f:Int) (z:Int) (o:Int) (t:Int) (dig:Bool) (A:AV) (v:List Nat) (S:ASt) (S1:ASt) (Q:Exit×AFr×ASt→Prop) :
 Vq (tFhr q k x u b h c ww p f z o t dig A v S S1) (fun r=>Q (rawR [2,3] r)) (al (kSqM_4 51 x 0) S (kSqM_20 b h c ww dig p f z o t A) (al ((kSqM_6 60 61 62 63 64 20 23 q 57).call 20 [AV.agg (kSqM_0 b h c ww dig p f z o t A)]) S (AV.bool true) (al (kSqM_4 51 x 0) S (kSqM_20 b h c ww dig p f z o t A) (al ((kSqM_6 60 61 62 63 64 20 23 q 57).call 23 [AV.agg (kSqM_0 b h c ww dig p f z o t A)]) S (AV.str v) (as_ S (aBin ESu BinOp.neq 9 (Operand.tmp 83) (Operand.tmp 84) (AV.str v) (AV.str u)) (AV.bool false) (al (kSqM_4 51 x 0) S (kSqM_20 b h c ww dig p f z o t A) (aa (Option.map (fun s=>(undefA,s)) (aStore ESu 51 (AV.ptr (some (k,0))) (kSqM_20 b h c ww dig p f z o t A) S)) (AV.tuple [],S1) (aq (Q (Exit.ret,xFr [(2,AV.ptr (some (k,0))),(3,AV.bool true)] 89,S1)))))))))):=vq (by kernel_rfl)
noncomputable abbrev kSqM_8 (a b c d:Int) (e:Bool) (f g h i j:Int):=AV.agg [AV.int IntKind.i64 a,AV.int IntKind.i64 b,AV.int IntKind.i64 c,AV.int IntKind.i64 d,AV.bool e,AV.int IntKind.i64 f,AV.int IntKind.i64 g,AV.int IntKind.i64 h,AV.int IntKind.i64 i,AV.int IntKind.i64 j]
noncomputable abbrev kSqM_13 (a:ASt):=ASt.mk a.h ((a.next+23)+1)
theorem vcQa (q:CallT) (k1:Nat) (k2:Nat) (n:Nat) (b:Int) (h:Int) (c:Int) (ww:Int) (p:Int) (f:Int) (z:Int) (o:Int) (t:Int) (dig:Bool) (A:AV) (B:AV) (v:List Nat) (S:ASt) (S1:ASt) (S2:ASt) (Q:AV×ASt→Prop) :
 Vq (tQa q k1 k2 n b h c ww p f z o t dig A B v S S1 S2) Q (aa (aBox (kSqM_20 b h c ww dig p f z o t A) S) (AV.ptr (some (k1,0)),S1) (aa (aBox (kSqM_20 b h c ww dig p f z o t B) S1) (AV.ptr (some (k2,0)),S2) (al (kSqM_4 48 k1 0) (kSqM_13 S2) (kSqM_8 b h c ww dig p f z o t) (al (kSqM_4 48 k2 0) (kSqM_13 S2) (kSqM_8 b h c ww dig p f z o t) (as_ (kSqM_13 S2) (aBin ESu BinOp.eql 48 (Operand.tmp 6) (Operand.tmp 8) (kSqM_8 b h c ww dig p f z o t) (kSqM_8 b h c ww dig p f z o t)) (AV.bool true) (al (kSqM_4 49 k1 10) (kSqM_13 S2) A (al (aBuiltinM ESu Builtin.len [49] [A]) (kSqM_13 S2) (kSqM_3 n) (al (kSqM_4 49 k2 10) (kSqM_13 S2) B (al (aBuiltinM ESu Builtin.len [49] [B]) (kSqM_13 S2) (kSqM_3 n) (as_ (kSqM_13 S2) (aBin ESu BinOp.eql 3 (Operand.tmp 13) (Operand.tmp 16) (kSqM_3 n) (kSqM_3 n)) (AV.bool true) (al (kSqM_4 49 k1 10) (kSqM_13 S2) A (al ((M ESu (drawA ESu) (onlyC [67] q) 56).call 67 [A]) (kSqM_13 S2) (AV.str v) (al (kSqM_4 49 k2 10) (kSqM_13 S2) B (al ((M ESu (drawA ESu) (onlyC [67] q) 56).call 67 [B]) (kSqM_13 S2) (AV.str v) (as_ (kSqM_13 S2) (aBin ESu BinOp.eql 9 (Operand.tmp 22) (Operand.tmp 25) (AV.str v) (AV.str v)) (AV.bool true) (ah (holdsO [(fstO (aLoad ESu 49 (AV.ptr (some (k2,10))) (kSqM_13 S2)),B)]) (aq (Q (AV.bool true,ASt.mk S2.h ((S2.next+23)+1)))))))))))))))))))):=vq (by kernel_rfl)
theorem vcQn (z:Int) (S:ASt) (Q:AV×ASt→Prop) :
 Vq (tQn z S) Q (aq (Q (AV.int IntKind.i64 z,S))):=vq (by kernel_rfl)
theorem vcQc (a:Nat) (S:ASt) (S1:ASt) (Q:AV×ASt→Prop) :
 Vq (tQc a S S1) Q (aa (sub7 (xFr [] 2) S) (AV.slice (some (a,0)) 8 (Cap.known 8),S1) (aq (Q (AV.slice (some (a,0)) 8 (Cap.known 8),S1)))):=vq (by kernel_rfl)
theorem vcQd (a:Nat) (S:ASt) (S1:ASt) (Q:AV×ASt→Prop) :
 Vq (tQd a S S1) Q (aa (sub8 (xFr [] 2) S) (AV.slice (some (a,0)) 8 (Cap.known 8),S1) (aq (Q (AV.slice (some (a,0)) 8 (Cap.known 8),S1)))):=vq (by kernel_rfl)
noncomputable abbrev kSqM_5 (a:CallT) (b:Nat):=M ESu (drawA ESu) (onlyC [14,15,17,18,19,20,21,22,23] a) b
theorem vcLa (q:CallT) (k:Nat) (n:Nat) (b:Int) (h:Int) (c:Int) (ww:Int) (p:Int) (f:Int) (z:Int) (o:Int) (t:Int) (dig:Bool) (A:AV) (u:List Nat) (S:ASt) (S1:ASt) (Q:Exit×AFr×ASt→Prop) :
 Vq (tLa q k n b h c ww p f z o t dig A u S S1) (fun r=>Q (rawR [4] r)) (aa (aBox (kSqM_20 b h c ww dig p f z o t A) S) (AV.ptr (some (k,0)),S1) (al (kSqM_4 49 k 10) S1 A (al (aBuiltinM ESu Builtin.len [49] [A]) S1 (kSqM_3 n) (as_ S1 (aBin ESu BinOp.gtr 3 (Operand.tmp 14) (Operand.const (Value.int IntKind.i64 300)) (kSqM_3 n) (kSqM_3 300)) (AV.bool true) (al ((kSqM_5 q 55).call 15 []) S1 (AV.bool true) (aq (Q (Exit.ret,xFr [(4,AV.bool true)] 89,S1)))))))):=vq (by kernel_rfl)
theorem vcLb (q:CallT) (k:Nat) (n:Nat) (m:Nat) (b:Int) (h:Int) (c:Int) (ww:Int) (p:Int) (f:Int) (z:Int) (o:Int) (t:Int) (dig:Bool) (A:AV) (u:List Nat) (S:ASt) (S1:ASt) (Q:Exit×AFr×ASt→Prop) :
 Vq (tLb q k n m b h c ww p f z o t dig A u S S1) (fun r=>Q (rawR [4] r)) (aa (aBox (kSqM_20 b h c ww dig p f z o t A) S) (AV.ptr (some (k,0)),S1) (al (kSqM_4 49 k 10) S1 A (al (aBuiltinM ESu Builtin.len [49] [A]) S1 (kSqM_3 n) (as_ S1 (aBin ESu BinOp.gtr 3 (Operand.tmp 14) (Operand.const (Value.int IntKind.i64 300)) (kSqM_3 n) (kSqM_3 300)) (AV.bool false) (al (aBuiltinM ESu Builtin.len [9] [AV.str u]) S1 (kSqM_3 m) (as_ S1 (aBin ESu BinOp.gtr 3 (Operand.tmp 18) (Operand.const (Value.int IntKind.i64 20000)) (kSqM_3 m) (kSqM_3 20000)) (AV.bool true) (al ((kSqM_5 q 55).call 15 []) S1 (AV.bool true) (aq (Q (Exit.ret,xFr [(4,AV.bool true)] 89,S1)))))))))):=vq (by kernel_rfl)
theorem vcLc (k:Nat) (n:Nat) (m:Nat) (b:Int) (h:Int) (c:Int) (ww:Int) (p:Int) (f:Int) (z:Int) (o:Int) (t:Int) (dig:Bool) (A:AV) (u:List Nat) (S:ASt) (S1:ASt) (Q:Exit×AFr×ASt→Prop) :
 Vq (tLc k n m b h c ww p f z o t dig A u S S1) (fun r=>Q (rawR [1,2] r)) (aa (aBox (kSqM_20 b h c ww dig p f z o t A) S) (AV.ptr (some (k,0)),S1) (al (kSqM_4 49 k 10) S1 A (al (aBuiltinM ESu Builtin.len [49] [A]) S1 (kSqM_3 n) (as_ S1 (aBin ESu BinOp.gtr 3 (Operand.tmp 14) (Operand.const (Value.int IntKind.i64 300)) (kSqM_3 n) (kSqM_3 300)) (AV.bool false) (al (aBuiltinM ESu Builtin.len [9] [AV.str u]) S1 (kSqM_3 m) (as_ S1 (aBin ESu BinOp.gtr 3 (Operand.tmp 18) (Operand.const (Value.int IntKind.i64 20000)) (kSqM_3 m) (kSqM_3 20000)) (AV.bool false) (aq (Q (Exit.normal,xFr [(1,AV.str u),(2,AV.ptr (some (k,0)))] 89,S1))))))))):=vq (by kernel_rfl)
noncomputable abbrev kSqM_1 (a:St) (b:AV):List AV:=[AV.int IntKind.i64 a.b,AV.int IntKind.i64 a.h,AV.int IntKind.i64 a.c,AV.int IntKind.i64 a.w,AV.bool a.dig,AV.int IntKind.i64 a.p,AV.int IntKind.i64 a.f,AV.int IntKind.i64 a.z,AV.int IntKind.i64 a.o,AV.int IntKind.i64 a.t,b]
theorem vcLd (q:CallT) (k:Nat) (k7:Nat) (k9:Nat) (e:Int) (f2:Int) (ok:Bool) (may:Bool) (b:Int) (h:Int) (c:Int) (ww:Int) (p:Int) (f:Int) (z:Int) (o:Int) (t:Int) (dig:Bool) (A:AV) (u:List Nat) (x:List Nat) (y:St) (C:AV) (D:AV) (S:ASt) (S2:ASt) (S3:ASt) (S4:ASt) (S5:ASt) (S6:ASt) (S7:ASt) (Q:Exit×AFr×ASt→Prop) :
 Vq (tLd q k k7 k9 e f2 ok may b h c ww p f z o t dig A u x y C D S S2 S3 S4 S5 S6 S7) (fun r=>Q (rawR [2,5,6,7,8,9,10,11] r)) (al (kSqM_4 51 k 0) S (kSqM_20 b h c ww dig p f z o t A) (al ((kSqM_5 q 58).call 17 [AV.agg (kSqM_0 b h c ww dig p f z o t A)]) S (AV.tuple [AV.str x,AV.int IntKind.i64 e]) (aa ((kSqM_5 q 57).call 18 [AV.str u] S) (AV.tuple [AV.agg (kSqM_1 y C),AV.int IntKind.i64 f2],S2) (aa (aAlloc ESu 51 S2) (AV.ptr (some (k7,0)),S3) (aa (Option.map (fun s=>(undefA,s)) (aStore ESu 51 (AV.ptr (some (k7,0))) (AV.agg (kSqM_1 y C)) S3)) (AV.tuple [],S4) (aa ((kSqM_5 q 56).call 19 [AV.str u] S4) (AV.tuple [AV.agg (kSqM_1 y D),AV.bool ok],S5) (aa (aAlloc ESu 51 S5) (AV.ptr (some (k9,0)),S6) (aa (Option.map (fun s=>(undefA,s)) (aStore ESu 51 (AV.ptr (some (k9,0))) (AV.agg (kSqM_1 y D)) S6)) (AV.tuple [],S7) (al (kSqM_4 51 k 0) S7 (kSqM_20 b h c ww dig p f z o t A) (al ((kSqM_5 q 56).call 20 [AV.agg (kSqM_0 b h c ww dig p f z o t A)]) S7 (AV.bool may) (aq (Q (Exit.normal,xFr [(2,AV.ptr (some (k,0))),(5,AV.str x),(6,AV.int IntKind.i64 e),(7,AV.ptr (some (k7,0))),(8,AV.int IntKind.i64 f2),(9,AV.ptr (some (k9,0))),(10,AV.bool ok),(11,AV.bool may)] 89,S7))))))))))))):=vq (by kernel_rfl)
theorem vcLe (q:CallT) (k:Nat) (k7:Nat) (k9:Nat) (e:Int) (f2:Int) (may:Bool) (may2:Bool) (b:Int) (h:Int) (c:Int) (ww:Int) (p:Int) (f:Int) (z:Int) (o:Int) (t:Int) (dig:Bool) (A:AV) (u:List Nat) (x:List Nat) (y:St) (C:AV) (D:AV) (S:ASt) (Q:Exit×AFr×ASt→Prop) :
 Vq (tLe q k k7 k9 e f2 may may2 b h c ww p f z o t dig A u x y C D S) (fun r=>Q (rawR [2,5,6,11] r)) (al (kSqM_4 51 k 0) S (kSqM_20 b h c ww dig p f z o t A) (al ((kSqM_5 q 58).call 21 [AV.agg (kSqM_0 b h c ww dig p f z o t A)]) S (AV.bool may2) (as_ S (aBin ESu BinOp.neq 4 (Operand.tmp 40) (Operand.tmp 41) (AV.bool may2) (AV.bool may)) (AV.bool false) (al (kSqM_4 51 k7 0) S (AV.agg (kSqM_1 y C)) (al (kSqM_4 51 k9 0) S (AV.agg (kSqM_1 y D)) (al ((kSqM_5 q 58).call 22 [AV.agg (kSqM_1 y C),AV.agg (kSqM_1 y D)]) S (AV.bool true) (al ((kSqM_5 q 58).call 14 [AV.int IntKind.i64 f2]) S (AV.int IntKind.i64 f2) (as_ S (aBin ESu BinOp.eql 3 (Operand.tmp 51) kSqM_16 (AV.int IntKind.i64 f2) (kSqM_3 0)) (AV.bool true) (as_ S (aBin ESu BinOp.neq 4 (Operand.tmp 52) (Operand.tmp 53) (AV.bool true) (AV.bool true)) (AV.bool false) (aq (Q (Exit.normal,xFr [(2,AV.ptr (some (k,0))),(5,AV.str x),(6,AV.int IntKind.i64 e),(11,AV.bool may)] 89,S)))))))))))):=vq (by kernel_rfl)
theorem vcLf (q:CallT) (k:Nat) (k7:Nat) (k9:Nat) (e:Int) (f2:Int) (may:Bool) (may2:Bool) (b:Int) (h:Int) (c:Int) (ww:Int) (p:Int) (f:Int) (z:Int) (o:Int) (t:Int) (dig:Bool) (A:AV) (u:List Nat) (x:List Nat) (y:St) (C:AV) (D:AV) (S:ASt) (Q:Exit×AFr×ASt→Prop) :
 Vq (tLf q k k7 k9 e f2 may may2 b h c ww p f z o t dig A u x y C D S) (fun r=>Q (rawR [2,5,6,11] r)) (al (kSqM_4 51 k 0) S (kSqM_20 b h c ww dig p f z o t A) (al ((kSqM_5 q 58).call 21 [AV.agg (kSqM_0 b h c ww dig p f z o t A)]) S (AV.bool may2) (as_ S (aBin ESu BinOp.neq 4 (Operand.tmp 40) (Operand.tmp 41) (AV.bool may2) (AV.bool may)) (AV.bool false) (al (kSqM_4 51 k7 0) S (AV.agg (kSqM_1 y C)) (al (kSqM_4 51 k9 0) S (AV.agg (kSqM_1 y D)) (al ((kSqM_5 q 58).call 22 [AV.agg (kSqM_1 y C),AV.agg (kSqM_1 y D)]) S (AV.bool true) (al ((kSqM_5 q 58).call 14 [AV.int IntKind.i64 f2]) S (AV.int IntKind.i64 f2) (as_ S (aBin ESu BinOp.eql 3 (Operand.tmp 51) kSqM_16 (AV.int IntKind.i64 f2) (kSqM_3 0)) (AV.bool false) (as_ S (aBin ESu BinOp.neq 4 (Operand.tmp 52) (Operand.tmp 53) (AV.bool false) (AV.bool false)) (AV.bool false) (al ((kSqM_5 q 58).call 14 [AV.int IntKind.i64 f2]) S (AV.int IntKind.i64 f2) (as_ S (aBin ESu BinOp.neq 3 (Operand.tmp 61) (Operand.const (Value.int IntKind.i64 4)) (AV.int IntKind.i64 f2) (kSqM_3 4)) (AV.bool false) (aq (Q (Exit.normal,xFr [(2,AV.ptr (some (k,0))),(5,AV.str x),(6,AV.int IntKind.i64 e),(11,AV.bool may)] 89,S)))))))))))))):=vq (by kernel_rfl)
theorem vcLg (q:CallT) (k:Nat) (e:Int) (x:List Nat) (S:ASt) (Q:Exit×AFr×ASt→Prop) :
 Vq (tLg q k e x S) (fun r=>Q (rawR [4] r)) (as_ S (aBin ESu BinOp.eql 9 (Operand.tmp 67) (Operand.const (Value.string (ByteArray.mk #[]))) (AV.str x) (AV.str [])) (AV.bool true) (al ((kSqM_5 q 55).call 14 [AV.int IntKind.i64 e]) S (AV.int IntKind.i64 e) (as_ S (aBin ESu BinOp.eql 3 (Operand.tmp 71) (Operand.const (Value.int IntKind.i64 2)) (AV.int IntKind.i64 e) (kSqM_3 2)) (AV.bool true) (al ((kSqM_5 q 55).call 15 []) S (AV.bool true) (aq (Q (Exit.ret,xFr [(4,AV.bool true)] 89,S))))))):=vq (by kernel_rfl)
theorem vcLh (q:CallT) (k:Nat) (e:Int) (b:Int) (h:Int) (c:Int) (ww:Int) (p:Int) (f:Int) (z:Int) (o:Int) (t:Int) (dig:Bool) (A:AV) (u:List Nat) (x:List Nat) (v:List Nat) (S:ASt) (Q:Exit×AFr×ASt→Prop) :
 Vq (tLh q k e b h c ww p f z o t dig A u x v S) (fun r=>Q (rawR [4] r)) (al (kSqM_4 51 k 0) S (kSqM_20 b h c ww dig p f z o t A) (al ((kSqM_5 q 57).call 23 [AV.agg (kSqM_0 b h c ww dig p f z o t A)]) S (AV.str v) (as_ S (aBin ESu BinOp.eql 9 (Operand.tmp 77) (Operand.tmp 79) (AV.str x) (AV.str v)) (AV.bool true) (al ((kSqM_5 q 57).call 14 [AV.int IntKind.i64 e]) S (AV.int IntKind.i64 e) (as_ S (aBin ESu BinOp.eql 3 (Operand.tmp 83) kSqM_16 (AV.int IntKind.i64 e) (kSqM_3 0)) (AV.bool true) (al ((kSqM_5 q 57).call 15 []) S (AV.bool true) (aq (Q (Exit.ret,xFr [(4,AV.bool true)] 89,S))))))))):=vq (by kernel_rfl)
end Go.Proofs.YtcboepooglaogaaGreatDoor.scr
end

section
open Go Go.Ax Go.Proofs
namespace Go.Proofs.YtcboepooglaogaaGreatDoor.scr
set_option linter.unusedVariables false
open spt
theorem ESuok:Env.Ok Tryz.prog ESu:=envEx_ok (xs:=[]) ⟨⟨Tryz.func4,Tryz.call4⟩,⟨Tryz.func14,Tryz.call14⟩,⟨Tryz.func17,Tryz.call17⟩,⟨Tryz.func18,Tryz.call18⟩,⟨Tryz.func19,Tryz.call19⟩,⟨Tryz.func20,Tryz.call20⟩,⟨Tryz.func21,Tryz.call21⟩,⟨Tryz.func22,Tryz.call22⟩,⟨Tryz.func23,Tryz.call23⟩,⟨Tryz.func54,Tryz.call54⟩,⟨Tryz.func56,Tryz.call56⟩,⟨Tryz.func57,Tryz.call57⟩,⟨Tryz.func58,Tryz.call58⟩,⟨Tryz.func59,Tryz.call59⟩,⟨Tryz.func60,Tryz.call60⟩,⟨Tryz.func61,Tryz.call61⟩,⟨Tryz.func62,Tryz.call62⟩,⟨Tryz.func63,Tryz.call63⟩,⟨Tryz.func64,Tryz.call64⟩,trivial⟩ trivial (by kernel_rfl)
def x0:St:=⟨0,0,0,0,false,0,0,0,0,0,[]⟩
def stOf (s:List Nat):St×Nat:=if mayN (stX (splitC 32 s))∧stT (stX (splitC 32 s))=s then (stX (splitC 32 s),0) else (x0,4)
def nilV:AV:=.slice none 0 (.known 0)
structure RD (S X:ASt) (k w x r:Nat) (ws:List (List Nat)) (j:Nat) (b:Bool) (y:St) (V:AV):Prop where
 tidy:Tidy X
 next:S.next≤X.next
 old:∀i,i<S.next→X.h.get i=S.h.get i
 gk:X.h.get k=some (.cells (stC x0 nilV) true)
 gr:X.h.get r=some (.cells (ws.map AV.str) true)
 gw:X.h.get w=some (wO r ws.length (min j ws.length) b)
 gx:X.h.get x=some (.cells (stC y V) true)
 hk:S.next≤k∧S.next≤r∧S.next≤w∧S.next≤x
 ne:k≠w∧r≠w∧x≠w∧k≠x∧r≠x
theorem getD_min (ws:List (List Nat)) (j:Nat):ws.getD (min j ws.length) []=ws.getD j []:=by
 rcases Nat.le_total j ws.length with h | h
 ·rw[Nat.min_eq_left h]
 ·rw[Nat.min_eq_right h,List.getD_eq_getElem?_getD,List.getD_eq_getElem?_getD,List.getElem?_eq_none (Nat.le_refl _),List.getElem?_eq_none h]
theorem min_succ (j n:Nat):min (min j n+1) n=min (j+1) n:=by omega
theorem le_min (j n:Nat):decide (n≤min j n)=decide (n≤j):=decide_eq_decide.2 (by omega)
section
variable {S X X':ASt} {k w x r j m:Nat} {ws:List (List Nat)} {b:Bool} {y y':St} {V V':AV}
theorem RD.grow (h:RD S X k w x r ws j b y V) (ht:Tidy X') (hn:X.next≤X'.next) (ho:∀i,i<X.next→X'.h.get i=X.h.get i):RD S X' k w x r ws j b y V:=by
 have lt:∀{i:Nat} {a:AO},X.h.get i=some a→X'.h.get i=some a:=fun {i a} hi=>by rw[ho i (h.tidy.lt hi)];exact hi
 exact⟨ht,Nat.le_trans h.next hn,fun i hi=>(ho i (Nat.lt_of_lt_of_le hi h.next)).trans (h.old i hi),lt h.gk,lt h.gr,lt h.gw,lt h.gx,h.hk,h.ne⟩
theorem RD.took (h:RD S X k w x r ws j b y V) {b':Bool} {j':Nat} (hw:WAt X X' w (wO r ws.length (min j' ws.length) b')):RD S X' k w x r ws j' b' y V :=
 ⟨hw.tidy h.tidy (h.tidy.lt h.gw),by rw[hw.next];exact h.next,fun i hi=>by rw[hw.ne i (by have:=h.hk.2.2.1;omega)];exact h.old i hi,by rw[hw.ne k h.ne.1];exact h.gk,by rw[hw.ne r h.ne.2.1];exact h.gr,hw.at_,by rw[hw.ne x h.ne.2.2.1];exact h.gx,h.hk,h.ne⟩
theorem RD.put (h:RD S X k w x r ws j b y V):RD S (X.put x (.cells (stC y' V') true)) k w x r ws j b y' V' :=
 ⟨h.tidy.put (h.tidy.lt h.gx),h.next,fun i hi=>by rw[put_ne (by have:=h.hk.2.2.2;omega)];exact h.old i hi,by rw[put_ne h.ne.2.2.2.1];exact h.gk,by rw[put_ne h.ne.2.2.2.2];exact h.gr,by rw[put_ne (fun e=>h.ne.2.2.1 e.symm)];exact h.gw,put_at,h.hk,h.ne⟩
theorem RD.num (h:RD S X k w x r ws j b y V) (hby:∀x,x∈ws→byS x) (hm:m<18446744073709551616) :
  ∃X',Call1 Tryz.prog 57 [.ptr (some (w,0)),.int .u64 (.ofNat m)] X (.int .u64 (.ofNat (numV m (ws.getD j []))),X')∧RD S X' k w x r ws (j+1) (b || (decide (ws.length≤j) || numB m (ws.getD j []))) y V∧∀i,i≠w→X'.h.get i=X.h.get i:=by
 obtain⟨X1,h1,h2⟩:=number_at (m:=m) h.tidy h.gw h.gr h.ne.2.1 (by omega) hby hm
 rw[getD_min,min_succ,le_min] at h2
 rw[getD_min] at h1
 exact⟨X1,h1,h.took h2,h2.ne⟩
theorem RD.one (h:RD S X k w x r ws j b y V) {a:Nat} {ks:List (List Nat)} {rk:Bool} (hk:X.h.get a=some (.cells (ks.map AV.str) rk)) (ha:a≠w) (hl:ks.length<1000) :
  ∃X',Call1 Tryz.prog 56 [.ptr (some (w,0)),.slice (some (a,0)) ks.length (.known ks.length)] X (.int .i64 (.ofNat (plF ks (ws.getD j []))),X')∧RD S X' k w x r ws (j+1) (b || (decide (ws.length≤j) || decide (plF ks (ws.getD j [])=0))) y V∧∀i,i≠w→X'.h.get i=X.h.get i:=by
 obtain⟨X1,h1,h2⟩:=one_at h.gw h.gr (by omega) hk ha hl
 rw[getD_min,min_succ,le_min] at h2
 rw[getD_min] at h1
 exact⟨X1,h1,h.took h2,h2.ne⟩
theorem RD.sto (h:RD S X k w x r ws j b y V) {t off:Nat} {v:AV} (hset:(stC y V).set off v=stC y' V') (hv:v.isCell=true) (ho:off<11:=by decide) (hT:oneT ESu t=true:=by kernel_rfl):Option.map (fun s=>(undefA,s)) (aStore ESu t (.ptr (some (x,off))) v X)=some (.tuple [],X.put x (.cells (stC y' V') true)):=by
 rw[←hset]
 exact okS_of (store_at hT h.gx (by show off<11;exact ho) hv)
theorem RD.add (h:RD S X k w x r ws j b y V) {a:AO}:RD S (X.add a) k w x r ws j b y V:=h.grow h.tidy.add (by show X.next≤X.next+1;omega) (fun i hi=>add_ne (by omega))
theorem w0u {n o:Nat} (hw:X.h.get w=some (wO r n o b)):aLoad ESu 86 (.ptr (some (w,0))) X=some (.slice (some (r,Nat.min o (n - 1))) (n - o) (.known (n - o)),X):=load_at (by kernel_rfl) hw rfl
theorem w1u {n o:Nat} (hw:X.h.get w=some (wO r n o b)):aLoad ESu 4 (.ptr (some (w,1))) X=some (.bool b,X):=load_at (by kernel_rfl) hw rfl
end
theorem opStrNe {E:Env} {Y:ASt} {x y:Operand} {t:TypeId} {u v:List Nat}:still Y (aBin E .neq t x y (.str u) (.str v))=some (.bool (!decide (u=v)),Y):=by
 have e:aBin E .neq t x y (.str u) (.str v)=some (.bool (!lEq u v)):=rfl
 have e2:lEq u v=decide (u=v):=by
  rw[lEq_eq]
  by_cases h:u=v
  ·rw[decide_eq_true h,h];exact beq_self_eq_true v
  ·rw[decide_eq_false h];exact beq_eq_false_iff_ne.2 h
 rw[e2] at e
 exact still_of e
def badN (n:Nat) (ps:List Bool):Nat→Bool
 | 0=>false
 | j+1=>badN n ps j || (decide (n≤j) || ps.getD j false)
theorem badN_iff {n:Nat} {ps:List Bool}:∀k,badN n ps k=true↔(n<k∨∃j,j<k∧ps.getD j false=true)
 | 0=>by simp[badN]
 | k+1=>by
  simp only[badN,Bool.or_eq_true,badN_iff k,decide_eq_true_eq]
  constructor
  ·rintro ((h | ⟨j,h1,h2⟩) | h | h)
   ·exact .inl (by omega)
   ·exact .inr ⟨j,by omega,h2⟩
   ·exact .inl (by omega)
   ·exact .inr ⟨k,by omega,h⟩
  ·rintro (h | ⟨j,h1,h2⟩)
   ·by_cases q:n<k
    ·exact .inl (.inl q)
    ·exact .inr (.inl (by omega))
   ·by_cases q:j<k
    ·exact .inl (.inr ⟨j,q,h2⟩)
    ·obtain rfl:j=k:=by omega
     exact .inr (.inr h2)
def stPs (ws:List (List Nat)):List Bool :=
 [decide (plF wStage (ws.getD 0 [])=0),numB 1000000 (ws.getD 1 []),numB 1000000 (ws.getD 2 []),numB 1000000 (ws.getD 3 []),numB 1000000 (ws.getD 4 []),decide (plF wHow (ws.getD 5 [])=0),decide (plF wProt (ws.getD 6 [])=0),decide (plF wFenc (ws.getD 7 [])=0),
  decide (plF wChoi (ws.getD 8 [])=0),decide (plF wChoi (ws.getD 9 [])=0),decide (plF wChoi (ws.getD 10 [])=0),rowB u64m (ws.getD 11 [])]
theorem stBad_iff (ws:List (List Nat)):stBad ws=false↔(badN ws.length (stPs ws) 12=false∧ws.length≤12):=by
 have h1:(∃j,j<12∧(stPs ws).getD j false=true)↔(stPs ws).any id=true:=by
  rw[List.any_eq_true]
  constructor
  ·rintro ⟨j,h1,h2⟩
   refine⟨true,?_,rfl⟩
   rw[List.getD_eq_getElem?_getD] at h2
   cases e:(stPs ws)[j]? with
   | none=>rw[e] at h2;cases h2
   | some p=>rw[e] at h2;have:p=true:=h2;subst this;exact List.mem_of_getElem? e
  ·rintro ⟨p,h1,h2⟩
   obtain⟨j,hj,rfl⟩:=List.mem_iff_getElem.1 h1
   have hj:j<12:=hj
   exact⟨j,hj,by rw[List.getD_eq_getElem?_getD,List.getElem?_eq_getElem (by exact hj)];exact h2⟩
 have h2:stBad ws=(!decide (ws.length=12) || (stPs ws).any id):=by
  unfold stBad stPs
  simp only[List.any_cons,List.any_nil,id,Bool.or_false,Bool.or_assoc]
 have h3:=badN_iff (n:=ws.length) (ps:=stPs ws) 12
 rw[h1] at h3
 rw[h2]
 cases hb:badN ws.length (stPs ws) 12 with
 | true =>
  have:=h3.1 hb
  constructor
  ·intro q
   rw[Bool.or_eq_false_iff] at q
   rcases this with p | p
   ·have:=q.1;simp only[Bool.not_eq_false',decide_eq_true_eq] at this;omega
   ·rw[q.2] at p;cases p
  ·rintro ⟨q,_⟩;cases q
 | false =>
  have hn:¬(ws.length<12∨(stPs ws).any id=true):=fun q=>by rw[h3.2 q] at hb;cases hb
  constructor
  ·intro q
   rw[Bool.or_eq_false_iff] at q
   have:=q.1;simp only[Bool.not_eq_false',decide_eq_true_eq] at this
   exact⟨rfl,by omega⟩
  ·rintro ⟨_,q⟩
   rw[Bool.or_eq_false_iff]
   refine⟨?_,?_⟩
   ·rw[decide_eq_true (show ws.length=12 by omega)];rfl
   ·cases e:(stPs ws).any id with
    | false=>rfl
    | true=>exact absurd (.inr e) hn
end Go.Proofs.YtcboepooglaogaaGreatDoor.scr
end

section
open Go Go.Ax Go.Proofs
namespace Go.Proofs.YtcboepooglaogaaGreatDoor.scr
set_option linter.unusedVariables false
open spt
def FL18:Fl:=⟨[2,12,14,16,17,5,34,35,36,39,40,42,77,78,85,45,46,47,52,53,58,59,79,82,83,87,92,97,99,102,103,107,108,110,113,4094,4095],[],[],[]⟩
def ptrs (x:Nat) (l:List Nat):AO:=.cells (l.map fun o=>.ptr (some (x,o))) true
noncomputable def f18 (u:List Nat) (k w x:Nat):AFr:=xFr [(0,.str u),(2,.ptr (some (k,0))),(4,.ptr (some (w,0))),(5,.ptr (some (x,0))),(6,.ptr (some (x,0)))] 114
noncomputable def f18a (u:List Nat) (k w x a i:Nat):AFr:=xFr [(0,.str u),(2,.ptr (some (k,0))),(4,.ptr (some (w,0))),(5,.ptr (some (x,0))),(6,.ptr (some (x,0))),(31,.slice (some (a,0)) 4 (.known 4)),(32,.int .i64 (.ofNat 4)),(33,.int .i64 (.ofNat i))] 114
noncomputable def f18b (u:List Nat) (k w x a i:Nat):AFr:=xFr [(0,.str u),(2,.ptr (some (k,0))),(4,.ptr (some (w,0))),(5,.ptr (some (x,0))),(74,.slice (some (a,0)) 3 (.known 3)),(75,.int .i64 (.ofNat 3)),(76,.int .i64 (.ofNat i))] 114
noncomputable def f18c (u:List Nat) (k w x:Nat):AFr:=xFr [(0,.str u),(2,.ptr (some (k,0))),(4,.ptr (some (w,0))),(5,.ptr (some (x,0)))] 114
theorem vcYb (k w x:Nat) (u:List Nat) (S:ASt) (Q:Exit×AFr×ASt→Prop) :
 Q (.normal,f18a u k w x (S.next+12) 0,(ASt.mk S.h (S.next+15)).put (S.next+12) (ptrs x [0,1,2,3]))=((TM ESu noSum [] fl0 60).ex FL18 none (seqL (seqL (dropC 4 c18))) (f18 u k w x) S).allY (fun r=>Q (rawR [0,2,4,5,6,31,32,33] r)) .nil:=by kernel_rfl
theorem vcYf (k w x:Nat) (u:List Nat) (S:ASt) (Q:Exit×AFr×ASt→Prop) :
 Q (.normal,f18b u k w x (S.next+12) 0,(ASt.mk S.h (S.next+15)).put (S.next+12) (ptrs x [7,8,9]))=((TM ESu noSum [] fl0 60).ex FL18 none (seqL (seqL (dropC 8 c18))) (f18 u k w x) S).allY (fun r=>Q (rawR [0,2,4,5,74,75,76] r)) .nil:=by kernel_rfl
theorem sh18a:dropC 4 c18=.seq (.seq (seqL (seqL (dropC 4 c18))) (.block 0 (.loop L18a))) (dropC 5 c18):=by kernel_rfl
theorem sh18b:dropC 8 c18=.seq (.seq (seqL (seqL (dropC 8 c18))) (.block 2 (.loop L18b))) (dropC 9 c18):=by kernel_rfl
theorem sh18c:dropC 9 c18=.seq (seqL (dropC 9 c18)) (dropC 10 c18):=by kernel_rfl
theorem sh18d:dropC 2 (dropC 5 c18)=dropC 8 c18:=by kernel_rfl
theorem cv22 {X:ASt} {n:Nat} (h:n≤1000000):aConvert ESu 22 3 (.int .u64 (.ofNat n)) X=some (.int .i64 (.ofNat n),X):=by
 have e:aConvert ESu 22 3 (.int .u64 (.ofNat n)) X=some (.int .i64 (wrapF .i64 (.ofNat n)),X):=by kernel_rfl
 rw[e,wrap_nat (by omega)]
theorem choices_at {X:ASt}:Call1 Tryz.prog 58 [] X (.slice (some (X.next,0)) wChoi.length (.known wChoi.length),X.add (.cells (wChoi.map AV.str) true)) :=
 Call1.of_tm ESuok noSum_ok (Eq.mp (vcQc X.next X (X.add (.cells (wChoi.map AV.str) true)) (· = _)) ⟨by kernel_rfl,rfl⟩)
theorem Choices_at {X:ASt}:Call1 Tryz.prog 63 [] X (.slice (some (X.next,0)) wChoi.length (.known wChoi.length),X.add (.cells (wChoi.map AV.str) true)) :=
 Call1.of_tm ESuok noSum_ok (Eq.mp (vcQd X.next X (X.add (.cells (wChoi.map AV.str) true)) (· = _)) ⟨by kernel_rfl,rfl⟩)
theorem Grw.cell {α:Type} {enc:α→AV} {base:Nat} {X:ASt} {V:AV} {L:List α} (h:Grw enc base X V L):V.isCell=true:=by
 rcases h with⟨rfl,_⟩ | ⟨r,_,rfl,_,_⟩<;>rfl
theorem Grw.refs {α:Type} {enc:α→AV} {S X:ASt} {V:AV} {L:List α} (h:Grw enc S.next X V L):refsD (Go.Ax.Good S) V:=by
 rcases h with⟨rfl,_⟩ | ⟨r,_,rfl,h,_⟩
 ·trivial
 ·exact .inl h
theorem endsRow {E:Env} (hE:E.Ok Tryz.prog) {f:Nat} {fn:Func} {c:Code} {args:List AV} {N:Nat} {S X:ASt} {F:AFr} {V v:AV} {L:List Nat} (row:Grw gN S.next X V L) (tidy:Tidy X) (next:S.next≤X.next) (old:∀k,k<S.next→X.h.get k=S.h.get k) (ht:Tidy S) (hv:refsD (Go.Ax.Good S) v)
  (hlv:leaveA E fn F X=some (v,X)) (hrun:Trip Tryz.prog S.next none c {m:=putArgs args 0 .e,n:=N,defs:=[]} S fun r=>r=(.ret,F,X)) (hfn:E.fn.get f=some fn:=by kernel_rfl) (hc:fn.body=some c:=by kernel_rfl) (hb:Nat.ble args.length fn.ntmps=true:=by kernel_rfl) (hN:fn.ntmps=N:=by kernel_rfl):∃S',Call1 Tryz.prog f args S (v,S')∧Gives gN S S' V L:=by
 rcases row with⟨e1,e2⟩ | ⟨r,e0,e1,e2,e3⟩
 ·obtain⟨S',h1,h2,h3⟩:=Call1.ends hE hfn hc hb hN (L:=[]) (v:=v) ht List.nodup_nil next (fun p hp=>by cases hp) (fun p hp=>by cases hp) hv
   (hrun.mono fun r hr=>by subst hr;exact⟨.inr rfl,_,hlv,⟨fun p hp=>(by cases hp),fun p hp=>(by cases hp),fun k hk _=>old k hk⟩,Nat.le_refl _⟩)
  exact⟨S',h1,.inl ⟨e1,e2⟩,h2.tidy,h2.next,fun k _=>h2.old k (fun p hp=>by cases hp)⟩
 ·have gd:∀p,p∈[(r,AO.cells (L.map gN) true)]→Go.Ax.Good S p.1∧refsB (Go.Ax.Good S) p.2:=fun p hp=>by
   rw[List.mem_singleton.1 hp]
   exact⟨.inl e2,encs_d (fun e=>gN_d e) L⟩
  obtain⟨S',h1,h2,h3⟩:=Call1.ends hE hfn hc hb hN (L:=[(r,.cells (L.map gN) true)]) (v:=v) ht (by simp) next (fun p hp=>by rw[List.mem_singleton.1 hp];exact tidy.lt e3) gd hv
   (hrun.mono fun z hz=>by subst hz;exact⟨.inr rfl,_,hlv,⟨fun p hp=>(by rw[List.mem_singleton.1 hp];exact e3),gd,fun k hk _=>old k hk⟩,Nat.le_refl _⟩)
  exact⟨S',h1,.inr ⟨r,e0,e1,e2,h2.at_ _ (List.mem_singleton_self _)⟩,h2.tidy,h2.next,fun k hk=>h2.old k (fun p hp=>by rw[List.mem_singleton.1 hp];show r≠k;omega)⟩
def yI (ws:List (List Nat)) (i:Nat):St :=
 ⟨if 0<i then (numV 1000000 (ws.getD 1 []):Int) else 0,if 1<i then (numV 1000000 (ws.getD 2 []):Int) else 0,if 2<i then (numV 1000000 (ws.getD 3 []):Int) else 0,if 3<i then (numV 1000000 (ws.getD 4 []):Int) else 0,
  if 4<i then decide (plF wHow (ws.getD 5 [])=2) else false,if 5<i then (plF wProt (ws.getD 6 []):Int) else 0,if 6<i then (plF wFenc (ws.getD 7 []):Int) else 0,if 7<i then (plF wChoi (ws.getD 8 []):Int) else 0,
  if 8<i then (plF wChoi (ws.getD 9 []):Int) else 0,if 9<i then (plF wChoi (ws.getD 10 []):Int) else 0,if 10<i then rowV u64m (ws.getD 11 []) else []⟩
theorem oneC_na {k f:Nat} {ar args:List AV} {S X:ASt} {r:AV×ASt} (h:args≠ar):oneC k ar S r f args X=none:=by unfold oneC;rw[if_neg (fun x=>h x.2.1)]
section
variable {S X:ASt} {k w x r:Nat} {ws:List (List Nat)} {u:List Nat} {V:AV}
abbrev RY (S X:ASt) (k w x r:Nat) (ws:List (List Nat)) (i:Nat) (V:AV):Prop:=RD S X k w x r ws (i+1) (badN ws.length (stPs ws) (i+1)) (yI ws i) V
theorem ix125 {a i:Nat} (hi:i<4):still X (aIndexAddr ESu 125 (.slice (some (a,0)) 4 (.known 4)) (.int .i64 (.ofNat i)))=some (.ptr (some (a,i*1)),X):=by
 have:=still_idx (E:=ESu) (t:=125) (z:=1) (i:=a) (o:=0) (n:=4) (k:=i) (c:=.known 4) (kd:=.i64) (st:=X) (by kernel_rfl) hi
 rw[Nat.zero_add] at this
 exact this
theorem ix128 {a i:Nat} (hi:i<3):still X (aIndexAddr ESu 128 (.slice (some (a,0)) 3 (.known 3)) (.int .i64 (.ofNat i)))=some (.ptr (some (a,i*1)),X):=by
 have:=still_idx (E:=ESu) (t:=128) (z:=1) (i:=a) (o:=0) (n:=3) (k:=i) (c:=.known 3) (kd:=.i64) (st:=X) (by kernel_rfl) hi
 rw[Nat.zero_add] at this
 exact this
theorem ldP {t a i o:Nat} {l:List Nat} (hT:cellT ESu t=true) (hX:X.h.get a=some (ptrs x l)) (hi:l[i]? = some o):aLoad ESu t (.ptr (some (a,i*1))) X=some (.ptr (some (x,o)),X) :=
 load_at hT hX (by rw[Nat.mul_one,List.getElem?_map,hi];rfl)
theorem round18a (hby:∀x,x∈ws→byS x) {a i:Nat} (hi:i<4) (h:RY S X k w x r ws i V) (ha:X.h.get a=some (ptrs x [0,1,2,3])) (hn:a≠w∧a≠x) :
  ∃X',(Trip Tryz.prog S.next none L18a (f18a u k w x a i) X fun q=>q=(.normal,f18a u k w x a (i+1),X'))∧RY S X' k w x r ws (i+1) V∧X'.h.get a=some (ptrs x [0,1,2,3]):=by
 obtain⟨X1,c1,c2,c3⟩:=h.num (m:=1000000) hby (by decide)
 have hset:(stC (yI ws i) V).set i (.int .i64 (.ofNat (numV 1000000 (ws.getD (i+1) []))))=stC (yI ws (i+1)) V:=by
  match i,hi with
  | 0,_=>rfl
  | 1,_=>rfl
  | 2,_=>rfl
  | 3,_=>rfl
 have hps:(stPs ws).getD (i+1) false=numB 1000000 (ws.getD (i+1) []):=by
  match i,hi with
  | 0,_=>rfl
  | 1,_=>rfl
  | 2,_=>rfl
  | 3,_=>rfl
 rw[←hps] at c2
 have lo:([0,1,2,3]:List Nat)[i]? = some i:=by
  match i,hi with
  | 0,_=>rfl
  | 1,_=>rfl
  | 2,_=>rfl
  | 3,_=>rfl
 refine⟨X1.put x (.cells (stC (yI ws (i+1)) V) true),?_,c2.put,by rw[put_ne hn.2,c3 a hn.1];exact ha⟩
 exact pcR ESuok (onlyC_ok (oneC_ok c1)) [0,2,4,5,6,31,32,33] (Eq.mp (vcYc _ k w x a i (numV 1000000 (ws.getD (i+1) [])) u X X1 _ (· = _))
  ⟨lT hi,ix125 hi,ldP (by kernel_rfl) ha lo,ca oneC_at,cv22 (numV_le _ _),c2.sto hset rfl (by omega),opAdd (by omega),rfl⟩)
theorem mid18 (h:RY S X k w x r ws 4 V):∃X',(∀{Q:Exit×AFr×ASt→Prop},Trip Tryz.prog S.next none (dropC 8 c18) (f18 u k w x) X' Q→Trip Tryz.prog S.next none (dropC 5 c18) (f18 u k w x) X Q)∧RY S X' k w x r ws 7 V:=by
 have a0:=h.add (a:=.cells (wHow.map AV.str) true)
 obtain⟨X2,c1,c2,c3⟩:=a0.one (a:=X.next) (ks:=wHow) add_at (by have:=h.tidy.lt h.gw;omega) (by decide)
 have s1:=c2.sto (y':=yI ws 5) (V':=V) (t:=4) (off:=4) (v:=.bool (decide (plF wHow (ws.getD 5 [])=2))) rfl rfl
 have p1:RY S (X2.put x (.cells (stC (yI ws 5) V) true)) k w x r ws 5 V:=c2.put
 have b0:=p1.add (a:=.cells (wProt.map AV.str) true)
 obtain⟨X5,d1,d2,d3⟩:=b0.one (a:=(X2.put x (.cells (stC (yI ws 5) V) true)).next) (ks:=wProt) add_at (by have:=p1.tidy.lt p1.gw;omega) (by decide)
 have s2:=d2.sto (y':=yI ws 6) (V':=V) (t:=42) (off:=5) (v:=.int .i64 (.ofNat (plF wProt (ws.getD 6 [])))) rfl rfl
 have p2:RY S (X5.put x (.cells (stC (yI ws 6) V) true)) k w x r ws 6 V:=d2.put
 have e0:=p2.add (a:=.cells (wFenc.map AV.str) true)
 obtain⟨X8,g1,g2,g3⟩:=e0.one (a:=(X5.put x (.cells (stC (yI ws 6) V) true)).next) (ks:=wFenc) add_at (by have:=p2.tidy.lt p2.gw;omega) (by decide)
 have s3:=g2.sto (y':=yI ws 7) (V':=V) (t:=43) (off:=6) (v:=.int .i64 (.ofNat (plF wFenc (ws.getD 7 [])))) rfl rfl
 refine⟨X8.put x (.cells (stC (yI ws 7) V) true),fun {Q} hh=>?_,g2.put⟩
 have q1:([AV.ptr (some (w,0)),AV.slice (some ((X2.put x (.cells (stC (yI ws 5) V) true)).next,0)) wProt.length (.known wProt.length)]:List AV)≠[.ptr (some (w,0)),.slice (some (X.next,0)) wHow.length (.known wHow.length)]:=fun e=>by
  injection e with _ e;injection e with e _;injection e with _ e _
  exact absurd e (by decide)
 have q2:([AV.ptr (some (w,0)),AV.slice (some ((X5.put x (.cells (stC (yI ws 6) V) true)).next,0)) wFenc.length (.known wFenc.length)]:List AV)≠[.ptr (some (w,0)),.slice (some (X.next,0)) wHow.length (.known wHow.length)]:=fun e=>by
  injection e with _ e;injection e with e _;injection e with _ e _
  exact absurd e (by decide)
 have q3:([AV.ptr (some (w,0)),AV.slice (some ((X5.put x (.cells (stC (yI ws 6) V) true)).next,0)) wFenc.length (.known wFenc.length)]:List AV)≠[.ptr (some (w,0)),.slice (some ((X2.put x (.cells (stC (yI ws 5) V) true)).next,0)) wProt.length (.known wProt.length)]:=fun e=>by
  injection e with _ e;injection e with e _;injection e with e _ _
  have e:=congrArg Prod.fst (Option.some.inj e)
  have lt:(X2.put x (.cells (stC (yI ws 5) V) true)).next<X5.next:=d2.tidy.lt (a:=.cells (wProt.map AV.str) true) (by rw[d3 _ (by have:=p1.tidy.lt p1.gw;omega)];exact add_at)
  have e:X5.next=(X2.put x (.cells (stC (yI ws 5) V) true)).next:=e
  omega
 exact preN ESuok (onlyC_ok (orC_ok (oneC_ok c1) (orC_ok (oneC_ok d1) (oneC_ok g1)))) 2 [0,2,4,5,6] (Eq.mp (vcYe _ k w x _ _ _ _ _ _ _ u X _ X2 _ _ X5 _ _ X8 _ (· = _))
  ⟨by kernel_rfl,ca oL,opEql,s1,by kernel_rfl,ca (orC_r (oneC_na q1) oL),s2,by kernel_rfl,ca (orC_r (oneC_na q2) (orC_r (oneC_na q3) oneC_at)),s3,rfl⟩) (by rw[sh18d];exact hh)
theorem round18b {a i:Nat} (hi:i<3) (h:RY S X k w x r ws (7+i) V) (ha:X.h.get a=some (ptrs x [7,8,9])) (hn:a≠w∧a≠x) :
  ∃X',(Trip Tryz.prog S.next none L18b (f18b u k w x a i) X fun q=>q=(.normal,f18b u k w x a (i+1),X'))∧RY S X' k w x r ws (7+(i+1)) V∧X'.h.get a=some (ptrs x [7,8,9]):=by
 have a0:=h.add (a:=.cells (wChoi.map AV.str) true)
 have haX:=h.tidy.lt ha
 obtain⟨X1,c1,c2,c3⟩:=a0.one (a:=X.next) (ks:=wChoi) add_at (by have:=h.tidy.lt h.gw;omega) (by decide)
 have hset:(stC (yI ws (7+i)) V).set (7+i) (.int .i64 (.ofNat (plF wChoi (ws.getD (7+i+1) []))))=stC (yI ws (7+(i+1))) V:=by
  match i,hi with
  | 0,_=>rfl
  | 1,_=>rfl
  | 2,_=>rfl
 have hps:(stPs ws).getD (7+i+1) false=decide (plF wChoi (ws.getD (7+i+1) [])=0):=by
  match i,hi with
  | 0,_=>rfl
  | 1,_=>rfl
  | 2,_=>rfl
 rw[←hps] at c2
 have lo:([7,8,9]:List Nat)[i]? = some (7+i):=by
  match i,hi with
  | 0,_=>rfl
  | 1,_=>rfl
  | 2,_=>rfl
 refine⟨X1.put x (.cells (stC (yI ws (7+(i+1))) V) true),?_,c2.put,by rw[put_ne hn.2,c3 a hn.1,add_ne (by omega)];exact ha⟩
 exact pcR ESuok (onlyC_ok (orC_ok (oneC_ok choices_at) (oneC_ok c1))) [0,2,4,5,74,75,76] (Eq.mp (vcYg _ k w x a X.next i (plF wChoi (ws.getD (7+i+1) [])) u X _ X1 _ (· = _))
  ⟨lT hi,ix128 hi,ldP (by kernel_rfl) ha lo,ca oL,ca (oR oneC_at),c2.sto hset rfl (by omega),opAdd (by omega),rfl⟩)
end
end Go.Proofs.YtcboepooglaogaaGreatDoor.scr
end

section
open Go Go.Ax Go.Proofs
namespace Go.Proofs.YtcboepooglaogaaGreatDoor.scr
set_option linter.unusedVariables false
open spt
theorem splitC_wle {c:Nat}:∀{s:List Nat},∀w,w∈splitC c s→w.length≤s.length
 | [],w,hw=>by simp only[splitC,List.mem_singleton] at hw;subst hw;exact Nat.le_refl _
 | a::s,w,hw=>by
  have ih:=splitC_wle (c:=c) (s:=s)
  simp only[splitC] at hw
  cases hb:Nat.beq a c
  ·rw[hb,cond_false] at hw
   cases hs:splitC c s with
   | nil=>exact absurd hs (splitC_ne c s)
   | cons y ys =>
    rw[hs] at hw ih
    simp only[List.mem_cons] at hw
    rcases hw with rfl | hw
    ·have:=ih y List.mem_cons_self;simp only[List.length_cons];omega
    ·have:=ih w (List.mem_cons_of_mem _ hw);simp only[List.length_cons];omega
  ·rw[hb,cond_true] at hw
   rcases List.mem_cons.1 hw with rfl | hw
   ·exact Nat.zero_le _
   ·have:=ih w hw;simp only[List.length_cons];omega
theorem splitC_getD {c:Nat} {s:List Nat} (i:Nat):((splitC c s).getD i []).length≤s.length:=by
 rw[List.getD_eq_getElem?_getD]
 cases e:(splitC c s)[i]? with
 | none=>exact Nat.zero_le _
 | some w=>exact splitC_wle w (List.mem_of_getElem? e)
section
variable {S X:ASt} {k w x r:Nat} {u:List Nat} {V:AV}
theorem begin18 (ht:Tidy S) (hb:byS u) (hl:u.length<40000000):∃k w x r X,RY S X k w x r (splitC 32 u) 0 nilV ∧
  ∀{Q:Exit×AFr×ASt→Prop},Trip Tryz.prog S.next none (dropC 4 c18) (f18 u k w x) X Q→Trip Tryz.prog S.next none c18 {m:=putArgs [.str u] 0 .e,n:=114,defs:=[]} S Q:=by
 generalize hws:splitC 32 u=ws
 obtain⟨S1,e1⟩:∃Y,Y=S.add (.cells (stC x0 nilV) true):=⟨_,rfl⟩
 obtain⟨S2,e2⟩:∃Y,Y=S1.add (.cells (ws.map AV.str) true):=⟨_,rfl⟩
 obtain⟨S3,e3⟩:∃Y,Y=S2.add (wO S1.next ws.length 0 false):=⟨_,rfl⟩
 obtain⟨S4,e4⟩:∃Y,Y=S3.add (.cells (wStage.map AV.str) true):=⟨_,rfl⟩
 have n1:S1.next=S.next+1:=by rw[e1];rfl
 have n2:S2.next=S.next+2:=by rw[e2];show S1.next+1=_;omega
 have n3:S3.next=S.next+3:=by rw[e3];show S2.next+1=_;omega
 have n4:S4.next=S.next+4:=by rw[e4];show S3.next+1=_;omega
 have t4:Tidy S4:=by rw[e4];refine Tidy.add ?_;rw[e3];refine Tidy.add ?_;rw[e2];refine Tidy.add ?_;rw[e1];exact ht.add
 have gk:S4.h.get S.next=some (.cells (stC x0 nilV) true):=by rw[e4,add_ne (by omega),e3,add_ne (by omega),e2,add_ne (by omega),e1];exact add_at
 have gr:S4.h.get S1.next=some (.cells (ws.map AV.str) true):=by rw[e4,add_ne (by omega),e3,add_ne (by omega),e2];exact add_at
 have gw:S4.h.get S2.next=some (wO S1.next ws.length 0 false):=by rw[e4,add_ne (by omega),e3];exact add_at
 have ga:S4.h.get S3.next=some (.cells (wStage.map AV.str) true):=by rw[e4];exact add_at
 have ol:∀i,i<S.next→S4.h.get i=S.h.get i:=fun i hi=>by rw[e4,add_ne (by omega),e3,add_ne (by omega),e2,add_ne (by omega),e1,add_ne (by omega)]
 obtain⟨S5,c1,c2⟩:=one_at (k:=S3.next) (ks:=wStage) gw gr (Nat.zero_le _) ga (by omega) (by decide)
 have n5:S5.next=S.next+4:=by rw[c2.next,n4]
 have t5:=c2.tidy t4 (by omega)
 have hsp:sumSplit 55 55 [.str u,.str [32]] S1=some (.slice (some (S1.next,0)) ws.length (.known ws.length),S2):=by
  unfold sumSplit
  simp only[Nat.beq_refl,cond_true]
  rw[blt_t (show u.length<4294967281 by omega),hws,e2];rfl
 have hbox:aBox (.agg [.slice (some (S1.next,0)) ws.length (.known ws.length),.bool false]) S2=some (.ptr (some (S2.next,0)),S3):=by rw[e3,wO_0];kernel_rfl
 refine⟨S.next,S2.next,S5.next,S1.next,S5.add (.cells (stC x0 nilV) true),⟨t5.add,by show S.next≤S5.next+1;omega,fun i hi=>by rw[add_ne (by omega),c2.ne i (by omega)];exact ol i hi,by rw[add_ne (by omega),c2.ne _ (by omega)];exact gk,by rw[add_ne (by omega),c2.ne _ (by omega)];exact gr,?_,add_at,by omega,by omega⟩,fun {Q} hh=>?_⟩
 ·rw[add_ne (by omega),c2.at_]
  have:min (0+1) ws.length=min (0+1) ws.length:=rfl
  rfl
 ·refine preN ESuok (onlyC_ok (orC_ok (oneC_ok c1) split_ok)) 4 [0,2,4,5,6] (Eq.mp (vcYa _ S.next S2.next S5.next S1.next ws.length S3.next (plF wStage (ws.getD 0 [])) u S S1 S2 S3 S4 S5 (S5.add (.cells (stC x0 nilV) true)) (· = _))
   ⟨by rw[e1];kernel_rfl,ca (oR hsp),hbox,by rw[e4];kernel_rfl,ca oL,by kernel_rfl,rfl⟩) hh
theorem grow15 {ws:List (List Nat)} {i:Nat} {l:List Nat} (h:RY S X k w x r ws i V):RY S ((ASt.mk X.h (X.next+15)).put (X.next+12) (ptrs x l)) k w x r ws i V :=
 RD.grow h ((h.tidy.mk (by show X.next≤X.next+15;omega)).put (by show X.next+12<X.next+15;omega)) (by show X.next≤X.next+15;omega) (fun i hi=>put_ne (by omega))
theorem walk18 {ws:List (List Nat)} (hby:∀x,x∈ws→byS x) (h:RY S X k w x r ws 0 nilV):∃X',(∀{Q:Exit×AFr×ASt→Prop},Trip Tryz.prog S.next none (dropC 9 c18) (f18c u k w x) X' Q→Trip Tryz.prog S.next none (dropC 4 c18) (f18 u k w x) X Q)∧RY S X' k w x r ws 10 nilV:=by
 have h1:=grow15 (l:=[0,1,2,3]) h
 have hx:=h.tidy.lt h.gx
 have hw:=h.tidy.lt h.gw
 obtain⟨T,hT0,hT⟩:=chainG (R:=fun (i:Nat) (Y Y':ASt)=>Trip Tryz.prog S.next none L18a (f18a u k w x (X.next+12) i) Y fun q=>q=(.normal,f18a u k w x (X.next+12) (i+1),Y')) (Inv:=fun i Y=>RY S Y k w x r ws i nilV∧Y.h.get (X.next+12)=some (ptrs x [0,1,2,3])) (X0:=(ASt.mk X.h (X.next+15)).put (X.next+12) (ptrs x [0,1,2,3])) ⟨h1,put_at⟩ 4 (fun i Y hi hI=>by
  obtain⟨X',q1,q2⟩:=round18a hby hi hI.1 hI.2 (by omega)
  exact⟨X',q1,q2⟩)
 have i4:=(hT 3 (by omega)).2.2.1
 obtain⟨X2,m1,m2⟩:=mid18 (u:=u) i4
 have h2:=grow15 (l:=[7,8,9]) m2
 have hx2:=m2.tidy.lt m2.gx
 have hw2:=m2.tidy.lt m2.gw
 obtain⟨U,hU0,hU⟩:=chainG (R:=fun (i:Nat) (Y Y':ASt)=>Trip Tryz.prog S.next none L18b (f18b u k w x (X2.next+12) i) Y fun q=>q=(.normal,f18b u k w x (X2.next+12) (i+1),Y')) (Inv:=fun i Y=>RY S Y k w x r ws (7+i) nilV∧Y.h.get (X2.next+12)=some (ptrs x [7,8,9])) (X0:=(ASt.mk X2.h (X2.next+15)).put (X2.next+12) (ptrs x [7,8,9])) ⟨h2,put_at⟩ 3 (fun i Y hi hI=>by
  obtain⟨X',q1,q2⟩:=round18b hi hI.1 hI.2 (by omega)
  exact⟨X',q1,q2⟩)
 refine⟨U 3,fun {Q} hh=>?_,(hU 2 (by omega)).2.2.1⟩
 rw[sh18a]
 refine lpN (T:=fun i=>(f18a u k w x (X.next+12) i,T i)) (n:=4) (F:=f18 u k w x) (Z:=T 4) ?_ (fun i hi=>(hT i hi).2.1) (pcR ESuok noSum_ok [0,2,4,5,6] (Eq.mp (vcYd k w x (X.next+12) 4 u (T 4) (· = _)) ⟨lF (Nat.le_refl _),rfl⟩)) (m1 ?_)
 ·rw[hT0];exact pcR ESuok noSum_ok [0,2,4,5,6,31,32,33] (Eq.mp (vcYb k w x u X (· = _)) rfl)
 rw[sh18b]
 refine lpN (T:=fun i=>(f18b u k w x (X2.next+12) i,U i)) (n:=3) (F:=f18c u k w x) (Z:=U 3) ?_ (fun i hi=>(hU i hi).2.1) (pcR ESuok noSum_ok [0,2,4,5] (Eq.mp (vcYh k w x (X2.next+12) 3 u (U 3) (· = _)) ⟨lF (Nat.le_refl _),rfl⟩)) hh
 rw[hU0];exact pcR ESuok noSum_ok [0,2,4,5,74,75,76] (Eq.mp (vcYf k w x u X2 (· = _)) rfl)
theorem last18 {ws:List (List Nat)} (hby:∀x,x∈ws→byS x) (hl:(ws.getD 11 []).length<40000000) (h:RY S X k w x r ws 10 nilV):∃V X',(∀{Q:Exit×AFr×ASt→Prop},Trip Tryz.prog S.next none (dropC 10 c18) (f18c u k w x) X' Q→Trip Tryz.prog S.next none (dropC 9 c18) (f18c u k w x) X Q)∧RY S X' k w x r ws 11 V∧Grw gN S.next X' V (stX ws).dr:=by
 obtain⟨V,X1,c1,c2,c3,c4,c5,c6⟩:=row_at (m:=u64m) h.tidy h.gw h.gr h.ne.2.1 (by omega) hby (by rw[getD_min];exact hl) (by decide)
 rw[getD_min,min_succ,le_min] at c2
 rw[getD_min] at c3
 have hw:=h.tidy.lt h.gw
 have r1:RD S X1 k w x r ws 12 (badN ws.length (stPs ws) 12) (yI ws 10) nilV :=
  ⟨c4,Nat.le_trans h.next c5,fun i hi=>by rw[c6 i (by have:=h.next;omega) (by have:=h.hk.2.2.1;omega)];exact h.old i hi,by rw[c6 k (h.tidy.lt h.gk) h.ne.1];exact h.gk,by rw[c6 r (h.tidy.lt h.gr) h.ne.2.1];exact h.gr,c2,by rw[c6 x (h.tidy.lt h.gx) h.ne.2.2.1];exact h.gx,h.hk,h.ne⟩
 have hxX:=h.tidy.lt h.gx
 refine⟨V,X1.put x (.cells (stC (yI ws 11) V) true),fun {Q} hh=>?_,r1.put,?_⟩
 ·rw[sh18c]
  exact Trip.then (pcR ESuok (onlyC_ok (oneC_ok c1)) [0,2,4,5] (Eq.mp (vcYi _ k w x u V X X1 _ (· = _)) ⟨ca oneC_at,r1.sto (y':=yI ws 11) (V':=V) (off:=10) rfl (Grw.cell c3),rfl⟩)) hh
 ·rcases c3 with⟨q1,q2⟩ | ⟨r2,q0,q1,q2,q3⟩
  ·exact .inl ⟨q1,q2⟩
  ·exact .inr ⟨r2,q0,q1,by have:=h.next;omega,by rw[put_ne (by omega)];exact q3⟩
theorem stOf_no {s:List Nat} (h:¬(mayN (stX (splitC 32 s))∧stT (stX (splitC 32 s))=s)):stOf s=(x0,4):=by unfold stOf;rw[if_neg h]
theorem stOf_yes {s:List Nat} (h:mayN (stX (splitC 32 s))∧stT (stX (splitC 32 s))=s):stOf s=(stX (splitC 32 s),0):=by unfold stOf;rw[if_pos h]
theorem ends_of {ws:List (List Nat)} (h:RY S X k w x r ws 11 V) (hg:Grw gN S.next X V (stX ws).dr) (ht:Tidy S) {y:St} {A:AV} {e:Nat} (hy:(y=x0∧A=nilV)∨(y=stX ws∧A=V))
  (hrun:Trip Tryz.prog S.next none c18 {m:=putArgs [.str u] 0 .e,n:=114,defs:=[]} S fun q=>q=(.ret,xFr [(2,.ptr (some (k,0))),(3,.int .i64 (.ofNat e))] 114,X.put k (.cells (stC y A) true))) :
  ∃S',Call1 Tryz.prog 18 [.str u] S (.tuple [.agg (stC y A),.int .i64 (.ofNat e)],S')∧Gives gN S S' A y.dr:=by
 have hk:=h.tidy.lt h.gk
 have row:Grw gN S.next (X.put k (.cells (stC y A) true)) A y.dr:=by
  rcases hy with⟨rfl,rfl⟩ | ⟨rfl,rfl⟩
  ·exact .inl ⟨rfl,rfl⟩
  ·rcases hg with⟨q1,q2⟩ | ⟨r2,q0,q1,q2,q3⟩
   ·exact .inl ⟨q1,q2⟩
   ·refine .inr ⟨r2,q0,q1,q2,?_⟩
    rw[put_ne (fun e=>?_)]
    ·exact q3
    ·subst e
     have:=h.gk.symm.trans q3
     simp only[Option.some.injEq,AO.cells.injEq,and_true] at this
     have:=congrArg (fun l=>l[4]?) this
     simp only[List.getElem?_map] at this
     cases hh:(stX ws).dr[4]? with
     | none=>rw[hh] at this;cases this
     | some v=>rw[hh] at this;cases this
 have hlv:leaveA ESu Tryz.f18 (xFr [(2,.ptr (some (k,0))),(3,.int .i64 (.ofNat e))] 114) (X.put k (.cells (stC y A) true))=some (.tuple [.agg (stC y A),.int .i64 (.ofNat e)],X.put k (.cells (stC y A) true)) :=
  leave_of (rs:=[.cell 2 51,.tmp 3]) (by kernel_rfl) rfl (res_cell (x:=.ptr (some (k,0))) (by kernel_rfl) (load_agg (z:=11) (by kernel_rfl) put_at (by kernel_rfl)) (res_tmp (by kernel_rfl) res_nil)) rfl
 refine endsRow ESuok (F:=xFr [(2,.ptr (some (k,0))),(3,.int .i64 (.ofNat e))] 114) row (h.tidy.put hk) h.next (fun i hi=>by rw[put_ne (by have:=h.hk.1;omega)];exact h.old i hi) ht ?_ hlv hrun
 have hA:=Grw.refs row
 exact⟨⟨trivial,trivial,trivial,trivial,trivial,trivial,trivial,trivial,trivial,trivial,hA,trivial⟩,trivial,trivial⟩
theorem stageOf_at (ht:Tidy S) (hb:byS u) (hl:u.length<40000000):∃V S',Call1 Tryz.prog 18 [.str u] S (.tuple [.agg (stC (stOf u).1 V),.int .i64 (.ofNat (stOf u).2)],S')∧Gives gN S S' V (stOf u).1.dr:=by
 have hby:=splitC_by (c:=32) hb
 have hlw:=Nat.lt_of_le_of_lt (splitC_getD (c:=32) (s:=u) 11) hl
 obtain⟨k,w,x,r,X0,h0,b0⟩:=begin18 ht hb hl
 obtain⟨X1,b1,h1⟩:=walk18 (u:=u) hby h0
 obtain⟨V,X2,b2,h2,hg⟩:=last18 (u:=u) hby hlw h1
 have go:∀{Q:Exit×AFr×ASt→Prop},Trip Tryz.prog S.next none (dropC 10 c18) (f18c u k w x) X2 Q→Trip Tryz.prog S.next none c18 {m:=putArgs [.str u] 0 .e,n:=114,defs:=[]} S Q:=fun {Q} hh=>b0 (b1 (b2 hh))
 generalize hws:splitC 32 u=ws at *
 have hbd:∀n,n∈(stX ws).dr→n<18446744073709551616:=fun n hn=>by have:=stX_dr ws n hn;unfold u64m at this;omega
 have stz:∀{y:St} {A:AV},Option.map (fun s=>(undefA,s)) (aStore ESu 51 (.ptr (some (k,0))) (.agg (stC y A)) X2)=some (.tuple [],X2.put k (.cells (stC y A) true)):=fun {y A}=>okS_of (storeW_at (z:=11) (by kernel_rfl) rfl rfl h2.gk)
 have fail:(¬(mayN (stX ws)∧stT (stX ws)=u))→(Trip Tryz.prog S.next none (dropC 10 c18) (f18c u k w x) X2 fun q=>q=(.ret,xFr [(2,.ptr (some (k,0))),(3,.int .i64 (.ofNat 4))] 114,X2.put k (.cells (stC x0 nilV) true)))→∃V S',Call1 Tryz.prog 18 [.str u] S (.tuple [.agg (stC (stOf u).1 V),.int .i64 (.ofNat (stOf u).2)],S')∧Gives gN S S' V (stOf u).1.dr:=fun hn hh=>by
  rw[stOf_no (by rw[hws];exact hn)]
  exact⟨nilV,ends_of h2 hg ht (.inl ⟨rfl,rfl⟩) (go hh)⟩
 have both:=stage_both (s:=u)
 rw[hws,←mayN_iff] at both
 have l0:=w1u h2.gw
 have l1:=w0u h2.gw
 have lx:aLoad ESu 51 (.ptr (some (x,0))) X2=some (.agg (stC (stX ws) V),X2):=load_agg (z:=11) (by kernel_rfl) h2.gx (by kernel_rfl)
 cases hbad:badN ws.length (stPs ws) 12 with
 | true =>
  rw[hbad] at l0
  have hn:¬(mayN (stX ws)∧stT (stX ws)=u):=fun q=>by have:=((stBad_iff ws).1 (both.1 q).1).1;rw[hbad] at this;cases this
  exact fail hn (pcR ESuok (onlyC_ok noSum_ok) [2,3] (Eq.mp (vcYj noSum k w x u X2 _ (· = _)) ⟨l0,stz (y:=x0) (A:=nilV),rfl⟩))
 | false =>
  rw[hbad] at l0
  by_cases hn12:12<ws.length
  ·have hn:¬(mayN (stX ws)∧stT (stX ws)=u):=fun q=>by have:=((stBad_iff ws).1 (both.1 q).1).2;omega
   exact fail hn (pcR ESuok (onlyC_ok noSum_ok) [2,3] (Eq.mp (vcYk noSum k w x u r _ _ X2 _ (· = _)) ⟨l0,l1,gT (by omega),stz (y:=x0) (A:=nilV),rfl⟩))
  ·have hz:=gF (E:=ESu) (Y:=X2) (t:=3) (k:=.i64) (x:=.tmp 98) (y:=.const (.int .i64 0)) (a:=ws.length - min 12 ws.length) (b:=0) (by omega)
   have hm21:Call1 Tryz.prog 21 [.agg (stC (stX ws) V)] X2 (.bool (decide (mayN (stX ws))),X2):=mayS_at hg.sl
   by_cases hm:mayN (stX ws)
   ·rw[decide_eq_true hm] at hm21
    have hm54:Call1 Tryz.prog 54 [.agg (stC (stX ws) V)] X2 (.str (stT (stX ws)),X2):=stext_at hg.sl hm hbd
    have hq:=onlyC_ok (fs:=[55,56,57,58,59,21,54]) (orC_ok (oneC_ok hm21) (oneC_ok hm54))
    by_cases ht2:stT (stX ws)=u
    ·rw[stOf_yes (by rw[hws];exact⟨hm,ht2⟩),hws]
     refine⟨V,ends_of h2 hg ht (.inr ⟨rfl,rfl⟩) (go (pcR ESuok hq [2,3] (Eq.mp (vcYn _ k w x u r _ _ (stX ws).b (stX ws).h (stX ws).c (stX ws).w (stX ws).p (stX ws).f (stX ws).z (stX ws).o (stX ws).t (stX ws).dig V (stT (stX ws)) X2 _ (· = _))
      ⟨l0,l1,hz,lx,ca oL,lx,ca (oR oneC_at),by rw[opStrNe,decide_eq_true ht2];rfl,lx,stz (y:=stX ws) (A:=V),rfl⟩)))⟩
    ·exact fail (fun q=>ht2 q.2) (pcR ESuok hq [2,3] (Eq.mp (vcYm _ k w x u r _ _ (stX ws).b (stX ws).h (stX ws).c (stX ws).w (stX ws).p (stX ws).f (stX ws).z (stX ws).o (stX ws).t (stX ws).dig V (stT (stX ws)) X2 _ (· = _))
      ⟨l0,l1,hz,lx,ca oL,lx,ca (oR oneC_at),by rw[opStrNe,decide_eq_false ht2];rfl,stz (y:=x0) (A:=nilV),rfl⟩))
   ·rw[decide_eq_false hm] at hm21
    exact fail (fun q=>hm q.1) (pcR ESuok (onlyC_ok (oneC_ok hm21)) [2,3] (Eq.mp (vcYl _ k w x u r _ _ (stX ws).b (stX ws).h (stX ws).c (stX ws).w (stX ws).p (stX ws).f (stX ws).z (stX ws).o (stX ws).t (stX ws).dig V X2 _ (· = _))
      ⟨l0,l1,hz,lx,ca oneC_at,stz (y:=x0) (A:=nilV),rfl⟩))
end
end Go.Proofs.YtcboepooglaogaaGreatDoor.scr
end

section
open Go Go.Ax Go.Proofs
namespace Go.Proofs.YtcboepooglaogaaGreatDoor.scr
set_option linter.unusedVariables false
open spt
structure RV (S X:ASt) (k x r:Nat) (wl:List (List Nat)) (y:St) (V:AV):Prop where
 tidy:Tidy X
 next:S.next≤X.next
 old:∀i,i<S.next→X.h.get i=S.h.get i
 gk:X.h.get k=some (.cells (stC x0 nilV) true)
 gr:X.h.get r=some (.cells (wl.map AV.str) true)
 gx:X.h.get x=some (.cells (stC y V) true)
 hk:S.next≤k∧S.next≤r∧S.next≤x
 ne:k≠x∧r≠x
section
variable {S X X':ASt} {k x r:Nat} {wl:List (List Nat)} {y y':St} {V V':AV}
theorem RV.grow (h:RV S X k x r wl y V) (ht:Tidy X') (hn:X.next≤X'.next) (ho:∀i,i<X.next→X'.h.get i=X.h.get i):RV S X' k x r wl y V:=by
 have lt:∀{i:Nat} {a:AO},X.h.get i=some a→X'.h.get i=some a:=fun {i a} hi=>by rw[ho i (h.tidy.lt hi)];exact hi
 exact⟨ht,Nat.le_trans h.next hn,fun i hi=>(ho i (Nat.lt_of_lt_of_le hi h.next)).trans (h.old i hi),lt h.gk,lt h.gr,lt h.gx,h.hk,h.ne⟩
theorem RV.put (h:RV S X k x r wl y V):RV S (X.put x (.cells (stC y' V') true)) k x r wl y' V' :=
 ⟨h.tidy.put (h.tidy.lt h.gx),h.next,fun i hi=>by rw[put_ne (by have:=h.hk.2.2;omega)];exact h.old i hi,by rw[put_ne h.ne.1];exact h.gk,by rw[put_ne h.ne.2];exact h.gr,put_at,h.hk,h.ne⟩
theorem RV.sto (h:RV S X k x r wl y V) {t off:Nat} {v:AV} (hset:(stC y V).set off v=stC y' V') (hv:v.isCell=true) (ho:off<11:=by decide) (hT:oneT ESu t=true:=by kernel_rfl):Option.map (fun s=>(undefA,s)) (aStore ESu t (.ptr (some (x,off))) v X)=some (.tuple [],X.put x (.cells (stC y' V') true)):=by
 rw[←hset]
 exact okS_of (store_at hT h.gx (by show off<11;exact ho) hv)
theorem RV.add (h:RV S X k x r wl y V) {a:AO}:RV S (X.add a) k x r wl y V:=h.grow h.tidy.add (by show X.next≤X.next+1;omega) (fun i hi=>add_ne (by omega))
theorem RV.up (h:RV S X k x r wl y V) (n:Nat):RV S (ASt.mk X.h (X.next+n)) k x r wl y V:=h.grow (h.tidy.mk (by omega)) (by show X.next≤X.next+n;omega) (fun _ _=>rfl)
theorem RV.ld (h:RV S X k x r wl y V) (i:Nat) (hi:i<wl.length):aLoad ESu 9 (.ptr (some (r,i))) X=some (.str (wl.getD i []),X) :=
 load_at (by kernel_rfl) h.gr (by rw[List.getElem?_map,List.getD_eq_getElem?_getD,List.getElem?_eq_getElem hi];rfl)
theorem ixW {n i:Nat} (hi:i<n):still X (aIndexAddr ESu 86 (.slice (some (r,0)) n (.rest 1)) (.int .i64 (.ofNat i)))=some (.ptr (some (r,i)),X):=by
 have:=still_idx (E:=ESu) (t:=86) (z:=1) (i:=r) (o:=0) (n:=n) (k:=i) (c:=.rest 1) (kd:=.i64) (st:=X) (by kernel_rfl) hi
 rw[Nat.zero_add,Nat.mul_one] at this
 exact this
end
def F61 (f:Nat) (args:List AV):AV:=match args with
 | .str s::_=>.int .i64 (.ofNat (numV 1000000 s))
 | _=>undefA
theorem oneC_nn {k f:Nat} {ar args:List AV} {S X:ASt} {r:AV×ASt} (h:X.next≠S.next):oneC k ar S r f args X=none:=by unfold oneC;rw[if_neg (fun x=>h (by rw[x.2.2]))]
theorem how_two (s:List Nat):decide (s=[100,105,103,101,115,116,115])=decide (plF wHow s=2):=by
 refine decide_eq_decide.2 ?_
 unfold wHow
 simp only[plF]
 by_cases h1:[112,108,97,105,110]=s
 ·subst h1;decide
 ·by_cases h2:[100,105,103,101,115,116,115]=s
  ·subst h2;decide
  ·rw[if_neg h1,if_neg h2]
   exact⟨fun e=>absurd e.symm h2,fun e=>by cases e⟩
noncomputable def f19 (u:List Nat) (k r n x:Nat):AFr:=xFr [(0,.str u),(2,.ptr (some (k,0))),(4,.slice (some (r,0)) n (.rest 1)),(5,.ptr (some (x,0)))] 89
theorem sh19a:dropC 2 c19=.seq (seqL (dropC 2 c19)) (dropC 3 c19):=by kernel_rfl
theorem sh19b:dropC 2 (dropC 3 c19)=dropC 5 (dropC 0 c19):=by kernel_rfl
theorem sh19c:dropC 5 (dropC 0 c19)=.seq (seqL (dropC 6 c19)) (dropC 7 c19):=by kernel_rfl
theorem sh19d:dropC 7 c19=.seq (seqL (dropC 7 c19)) (dropC 8 c19):=by kernel_rfl
section
variable {S X:ASt} {k x r:Nat} {u:List Nat} {V:AV}
theorem pad_at {ws:List (List Nat)} {i:Nat} (hi:i<12):(ws++List.replicate 12 []).getD i []=ws.getD i []:=by
 rw[List.getD_eq_getElem?_getD,List.getD_eq_getElem?_getD]
 rcases Nat.lt_or_ge i ws.length with h | h
 ·rw[List.getElem?_append_left h]
 ·rw[List.getElem?_append_right h,List.getElem?_eq_none h]
  rw[List.getElem?_replicate,if_pos (by omega)];rfl
theorem read19 {ws:List (List Nat)} (hby:∀x,x∈ws→byS x) (h:RV S X k x r (ws++List.replicate 12 []) x0 nilV) (hl:(ws.getD 11 []).length<40000000) :
  ∃V X',(∀{Q:Exit×AFr×ASt→Prop},Trip Tryz.prog S.next none (dropC 8 c19) (xFr [(0,.str u),(2,.ptr (some (k,0))),(5,.ptr (some (x,0)))] 89) X' Q→Trip Tryz.prog S.next none (dropC 2 c19) (f19 u k r (ws.length+12) x) X Q) ∧
   RV S X' k x r (ws++List.replicate 12 []) (stX ws) V∧Grw gN S.next X' V (stX ws).dr:=by
 have hlen:(ws++List.replicate 12 ([]:List Nat)).length=ws.length+12:=by rw[List.length_append,List.length_replicate]
 have ld:∀{Y:ASt} {y:St} {V:AV} (h:RV S Y k x r (ws++List.replicate 12 []) y V) (i:Nat),i<12→aLoad ESu 9 (.ptr (some (r,i))) Y=some (.str (ws.getD i []),Y):=fun {Y y V} h i hi=>by
  have:=h.ld i (by rw[hlen];omega)
  rw[pad_at hi] at this;exact this
 have bb:∀i,byS (ws.getD i []):=fun i=>byS_at hby i
 -- the numbers
 have z:=h.up 28
 have p1:RV S _ k x r (ws++List.replicate 12 []) (yI ws 1) nilV:=z.put
 have p2:RV S _ k x r (ws++List.replicate 12 []) (yI ws 2) nilV:=p1.put
 have p3:RV S _ k x r (ws++List.replicate 12 []) (yI ws 3) nilV:=p2.put
 have p4:RV S _ k x r (ws++List.replicate 12 []) (yI ws 4) nilV:=p3.put
 have hq61:CallsOK Tryz.prog (onlyC [60,61,62,63,64,20,23] (tabF F61 [(61,[.str (ws.getD 1 []),.int .i64 (.ofNat 1000000)]),(61,[.str (ws.getD 2 []),.int .i64 (.ofNat 1000000)]),(61,[.str (ws.getD 3 []),.int .i64 (.ofNat 1000000)]),(61,[.str (ws.getD 4 []),.int .i64 (.ofNat 1000000)])])):=onlyC_ok (tabF_ok fun key hk Y=>by
  simp only[List.mem_cons,List.not_mem_nil,or_false] at hk
  rcases hk with rfl | rfl | rfl | rfl<;>exact small_of (bb _))
 have st1:Trip Tryz.prog S.next none (seqL (dropC 2 c19)) (f19 u k r (ws.length+12) x) X fun q=>q=(.normal,f19 u k r (ws.length+12) x,_) :=
  pcR ESuok hq61 [0,2,4,5] (Eq.mp (vcFb _ k x r (ws.length+12) u (ws.getD 1 []) (ws.getD 2 []) (ws.getD 3 []) (ws.getD 4 []) _ _ _ _ X _ _ _ _ (· = _))
   ⟨ixW (by omega),ld z 1 (by decide),ca (tabF_at (by simp) rfl),ixW (by omega),ld z 2 (by decide),ca (tabF_at (by simp) rfl),ixW (by omega),ld z 3 (by decide),ca (tabF_at (by simp) rfl),ixW (by omega),ld z 4 (by decide),ca (tabF_at (by simp) rfl),
    z.sto (y':=yI ws 1) (V':=nilV) rfl rfl,p1.sto (y':=yI ws 2) (V':=nilV) rfl rfl,p2.sto (y':=yI ws 3) (V':=nilV) rfl rfl,p3.sto (y':=yI ws 4) (V':=nilV) rfl rfl,
    holds_cons (fstO_of (ld z 2 (by decide))) (holds_cons (fstO_of (ld z 3 (by decide))) (holds_cons (fstO_of (ld z 3 (by decide))) (holds_cons (fstO_of (ld z 4 (by decide))) (holds_cons (fstO_of (ld z 4 (by decide))) (holds_cons (fstO_of (ld z 4 (by decide))) trivial))))),rfl⟩)
 -- how,what protocol,what fencing
 generalize hX4:((((ASt.mk X.h (X.next+28)).put x (.cells (stC (yI ws 1) nilV) true)).put x (.cells (stC (yI ws 2) nilV) true)).put x (.cells (stC (yI ws 3) nilV) true)).put x (.cells (stC (yI ws 4) nilV) true)=X4 at p4 st1
 have p5:RV S _ k x r (ws++List.replicate 12 []) (yI ws 5) nilV:=p4.put
 have a5:=p5.add (a:=.cells (wProt.map AV.str) true)
 have p6:RV S _ k x r (ws++List.replicate 12 []) (yI ws 6) nilV:=a5.put
 have a6:=p6.add (a:=.cells (wFenc.map AV.str) true)
 have p7:RV S _ k x r (ws++List.replicate 12 []) (yI ws 7) nilV:=a6.put
 have c6:Call1 Tryz.prog 62 [.slice (some ((X4.put x (.cells (stC (yI ws 5) nilV) true)).next,0)) wProt.length (.known wProt.length),.str (ws.getD 6 [])] ((X4.put x (.cells (stC (yI ws 5) nilV) true)).add (.cells (wProt.map AV.str) true)) (.int .i64 (.ofNat (plF wProt (ws.getD 6 []))),_):=place_at add_at (by decide)
 have c7:Call1 Tryz.prog 62 [.slice (some ((((X4.put x (.cells (stC (yI ws 5) nilV) true)).add (.cells (wProt.map AV.str) true)).put x (.cells (stC (yI ws 6) nilV) true)).next,0)) wFenc.length (.known wFenc.length),.str (ws.getD 7 [])] ((((X4.put x (.cells (stC (yI ws 5) nilV) true)).add (.cells (wProt.map AV.str) true)).put x (.cells (stC (yI ws 6) nilV) true)).add (.cells (wFenc.map AV.str) true)) (.int .i64 (.ofNat (plF wFenc (ws.getD 7 []))),_):=place_at add_at (by decide)
 have st2:∀{Q:Exit×AFr×ASt→Prop},Trip Tryz.prog S.next none (dropC 2 (dropC 3 c19)) (f19 u k r (ws.length+12) x) (((((X4.put x (.cells (stC (yI ws 5) nilV) true)).add (.cells (wProt.map AV.str) true)).put x (.cells (stC (yI ws 6) nilV) true)).add (.cells (wFenc.map AV.str) true)).put x (.cells (stC (yI ws 7) nilV) true)) Q→Trip Tryz.prog S.next none (dropC 3 c19) (f19 u k r (ws.length+12) x) X4 Q:=fun {Q} hh =>
  preN ESuok (onlyC_ok (orC_ok (oneC_ok c6) (oneC_ok c7))) 2 [0,2,4,5] (Eq.mp (vcFc _ k x r (ws.length+12) u (ws.getD 5 []) (ws.getD 6 []) (ws.getD 7 []) (decide (ws.getD 5 []=[100,105,103,101,115,116,115])) _ _ _ _ X4 _ _ _ _ _ (· = _))
   ⟨ixW (by omega),ld p4 5 (by decide),opStrEq,by rw[how_two];exact p4.sto (y':=yI ws 5) (V':=nilV) rfl rfl,by kernel_rfl,ixW (by omega),ld a5 6 (by decide),ca oL,a5.sto (y':=yI ws 6) (V':=nilV) rfl rfl,by kernel_rfl,ixW (by omega),ld a6 7 (by decide),
    ca (orC_r (oneC_nn (by show _+1+1≠_+1;omega)) oneC_at),a6.sto (y':=yI ws 7) (V':=nilV) rfl rfl,rfl⟩) hh
 -- the choices
 generalize hX7:((((X4.put x (.cells (stC (yI ws 5) nilV) true)).add (.cells (wProt.map AV.str) true)).put x (.cells (stC (yI ws 6) nilV) true)).add (.cells (wFenc.map AV.str) true)).put x (.cells (stC (yI ws 7) nilV) true)=X7 at p7 st2
 have z7:=p7.up 19
 generalize hZ:ASt.mk X7.h (X7.next+19)=Z at z7
 have a1:=z7.add (a:=.cells (wChoi.map AV.str) true)
 have a2:=a1.add (a:=.cells (wChoi.map AV.str) true)
 have a3:=a2.add (a:=.cells (wChoi.map AV.str) true)
 generalize hZ1:Z.add (.cells (wChoi.map AV.str) true)=Z1 at a1 a2 a3
 generalize hZ2:Z1.add (.cells (wChoi.map AV.str) true)=Z2 at a2 a3
 generalize hZ3:Z2.add (.cells (wChoi.map AV.str) true)=Z3 at a3
 have n1:Z1.next=Z.next+1:=by rw[←hZ1];rfl
 have n2:Z2.next=Z.next+2:=by rw[←hZ2];show Z1.next+1=_;omega
 have n3:Z3.next=Z.next+3:=by rw[←hZ3];show Z2.next+1=_;omega
 have m1:Call1 Tryz.prog 63 [] Z (.slice (some (Z.next,0)) wChoi.length (.known wChoi.length),Z1):=by rw[←hZ1];exact Choices_at
 have m2:Call1 Tryz.prog 63 [] Z1 (.slice (some (Z1.next,0)) wChoi.length (.known wChoi.length),Z2):=by rw[←hZ2];exact Choices_at
 have m3:Call1 Tryz.prog 63 [] Z2 (.slice (some (Z2.next,0)) wChoi.length (.known wChoi.length),Z3):=by rw[←hZ3];exact Choices_at
 have d1:Call1 Tryz.prog 62 [.slice (some (Z.next,0)) wChoi.length (.known wChoi.length),.str (ws.getD 8 [])] Z1 (.int .i64 (.ofNat (plF wChoi (ws.getD 8 []))),Z1):=place_at (by rw[←hZ1];exact add_at) (by decide)
 have d2:Call1 Tryz.prog 62 [.slice (some (Z1.next,0)) wChoi.length (.known wChoi.length),.str (ws.getD 9 [])] Z2 (.int .i64 (.ofNat (plF wChoi (ws.getD 9 []))),Z2):=place_at (by rw[←hZ2];exact add_at) (by decide)
 have d3:Call1 Tryz.prog 62 [.slice (some (Z2.next,0)) wChoi.length (.known wChoi.length),.str (ws.getD 10 [])] Z3 (.int .i64 (.ofNat (plF wChoi (ws.getD 10 []))),Z3):=place_at (by rw[←hZ3];exact add_at) (by decide)
 have pa:RV S _ k x r (ws++List.replicate 12 []) (yI ws 10) nilV:=a3.put
 have st3:Trip Tryz.prog S.next none (seqL (dropC 6 c19)) (f19 u k r (ws.length+12) x) X7 fun q=>q=(.normal,f19 u k r (ws.length+12) x,Z3.put x (.cells (stC (yI ws 10) nilV) true)):=by
  subst hZ
  refine pcR ESuok (onlyC_ok (orC_ok (oneC_ok m1) (orC_ok (oneC_ok m2) (orC_ok (oneC_ok m3) (orC_ok (oneC_ok d1) (orC_ok (oneC_ok d2) (oneC_ok d3))))))) [0,2,4,5] (Eq.mp (vcFd _ k x r (ws.length+12) u (ws.getD 8 []) (ws.getD 9 []) (ws.getD 10 []) (ASt.mk X7.h (X7.next+19)).next Z1.next Z2.next (plF wChoi (ws.getD 8 [])) (plF wChoi (ws.getD 9 [])) (plF wChoi (ws.getD 10 [])) X7 Z1 Z2 Z3 (Z3.put x (.cells (stC (yI ws 10) nilV) true)) (· = _)) ?_)
  exact⟨ca oL,ixW (by omega),ld a1 8 (by decide),ca (oR (oR (oR oL))),ca (orC_r (oneC_nn (by omega)) oL),ixW (by omega),ld a2 9 (by decide),ca (oR (oR (oR (orC_r (oneC_nn (by omega)) oL)))),ca (orC_r (oneC_nn (by omega)) (orC_r (oneC_nn (by omega)) oL)),ixW (by omega),ld a3 10 (by decide),ca (oR (oR (oR (orC_r (oneC_nn (by omega)) (orC_r (oneC_nn (by omega)) oneC_at))))),
   okS_of (storeA_at (z:=3) (A:=(stC (yI ws 7) nilV).take 7) (B:=[.int .i64 0,.int .i64 0,.int .i64 0]) (C:=[nilV]) (l:=[.int .i64 (.ofNat (plF wChoi (ws.getD 8 []))),.int .i64 (.ofNat (plF wChoi (ws.getD 9 []))),.int .i64 (.ofNat (plF wChoi (ws.getD 10 [])))]) (by kernel_rfl) rfl rfl rfl a3.gx),
   holds_cons (fstO_of (ld z7 8 (by decide))) (holds_cons (fstO_of (ld z7 9 (by decide))) (holds_cons (fstO_of (ld a1 9 (by decide))) (holds_cons (fstO_of (ld a1 9 (by decide))) (holds_cons (fstO_of (ld z7 10 (by decide))) (holds_cons (fstO_of (ld a1 10 (by decide))) (holds_cons (fstO_of (ld a1 10 (by decide))) (holds_cons (fstO_of (ld a2 10 (by decide))) (holds_cons (fstO_of (ld a2 10 (by decide))) trivial)))))))),rfl⟩
 -- the draws
 generalize hXa:Z3.put x (.cells (stC (yI ws 10) nilV) true)=Xa at pa st3
 obtain⟨V,Xb,u1,g1,g2,g3,g4⟩:=unrow_at (S:=Xa) (m:=u64m) pa.tidy (bb 11) hl (by decide)
 have pb:RV S Xb k x r (ws++List.replicate 12 []) (yI ws 10) nilV:=pa.grow g2 g3 g4
 have hxb:=pa.tidy.lt pa.gx
 refine⟨V,Xb.put x (.cells (stC (yI ws 11) V) true),fun {Q} hh=>?_,pb.put,?_⟩
 ·rw[sh19a]
  refine Trip.then st1 (st2 ?_)
  rw[sh19b,sh19c]
  refine Trip.then st3 ?_
  rw[sh19d]
  exact Trip.then (pcR ESuok (onlyC_ok (oneC_ok u1)) [0,2,5] (Eq.mp (vcFe _ k x r (ws.length+12) u (ws.getD 11 []) V Xa Xb _ (· = _)) ⟨ixW (by omega),ld pa 11 (by decide),ca oneC_at,pb.sto (y':=yI ws 11) (V':=V) (off:=10) rfl (Grw.cell g1),rfl⟩)) hh
 ·rcases g1 with⟨q1,q2⟩ | ⟨r2,q0,q1,q2,q3⟩
  ·exact .inl ⟨q1,q2⟩
  ·exact .inr ⟨r2,q0,q1,by have:=pa.next;omega,by rw[put_ne (by omega)];exact q3⟩
end
end Go.Proofs.YtcboepooglaogaaGreatDoor.scr
end

section
open Go Go.Ax Go.Proofs
namespace Go.Proofs.YtcboepooglaogaaGreatDoor.scr
set_option linter.unusedVariables false
open spt
section
variable {S X:ASt} {k x r:Nat} {u:List Nat} {V:AV}
theorem begin19 (ht:Tidy S) (hb:byS u) (hl:u.length<40000000):∃k x r X,RV S X k x r (splitC 32 u++List.replicate 12 []) x0 nilV ∧
  ∀{Q:Exit×AFr×ASt→Prop},Trip Tryz.prog S.next none (dropC 2 c19) (f19 u k r ((splitC 32 u).length+12) x) X Q→Trip Tryz.prog S.next none c19 {m:=putArgs [.str u] 0 .e,n:=89,defs:=[]} S Q:=by
 obtain⟨S1,e1⟩:∃Y,Y=S.add (.cells (stC x0 nilV) true):=⟨_,rfl⟩
 have n1:S1.next=S.next+1:=by rw[e1];rfl
 have t1:Tidy S1:=by rw[e1];exact ht.add
 obtain⟨V,S2,c1,g1,g2,g3,g4⟩:=Words_at (S:=S1) (s:=u) (c:=32) t1 (by omega)
 have hlen:=splitC_len (c:=32) (s:=u)
 rcases g1 with⟨q1,q2⟩ | ⟨r,q0,q1,q2,q3⟩
 ·exact absurd q2 (splitC_ne 32 u)
 subst q1
 generalize splitC 32 u=ws at *
 have hr2:=g2.lt q3
 obtain⟨S3,e3⟩:∃Y,Y=S2.add (.cells ((List.replicate 12 ([]:List Nat)).map AV.str) true):=⟨_,rfl⟩
 have n3:S3.next=S2.next+1:=by rw[e3];rfl
 have t3:Tidy S3:=by rw[e3];exact g2.add
 have o3:∀i,i<S2.next→S3.h.get i=S2.h.get i:=fun i hi=>by rw[e3,add_ne (by omega)]
 have ap:=append_grow_at (E:=ESu) (sT:=86) (xT:=86) (z:=1) (b:=16) (n:=12) (l:=ws.length) (i:=r) (x:=.slice (some (S2.next,0)) 12 (.known 12)) (st:=S3) (new:=(List.replicate 12 ([]:List Nat)).map AV.str) (cs:=ws.map AV.str)
  (by kernel_rfl) rfl (first_at (cs:=(List.replicate 12 ([]:List Nat)).map AV.str) (rw:=true) (by rw[e3];exact add_at) (by kernel_rfl)) (by rw[o3 r hr2];exact q3) (by rw[List.length_map,Nat.mul_one]) (by decide) (by decide) (by omega) (by omega)
 rw[←List.map_append] at ap
 obtain⟨S4,e4⟩:∃Y,Y=(S3.put r .dead).add (.cells ((ws++List.replicate 12 []).map AV.str) true):=⟨_,rfl⟩
 rw[←e4] at ap
 have n4:S4.next=S3.next+1:=by rw[e4];rfl
 have t4:Tidy S4:=by rw[e4];exact (t3.put (by omega)).add
 have gr:S4.h.get S3.next=some (.cells ((ws++List.replicate 12 []).map AV.str) true):=by rw[e4];exact add_at (S:=S3.put r .dead)
 have o4:∀i,i<S1.next→S4.h.get i=S1.h.get i:=fun i hi=>by rw[e4,add_ne (by rw[put_next];omega),put_ne (by omega),o3 i (by omega)];exact g4 i hi
 have gk:S4.h.get S.next=some (.cells (stC x0 nilV) true):=by rw[o4 _ (by omega),e1];exact add_at
 have ol:∀i,i<S.next→S4.h.get i=S.h.get i:=fun i hi=>by rw[o4 i (by omega),e1,add_ne (by omega)]
 have rv:RV S (S4.add (.cells (stC x0 nilV) true)) S.next S4.next S3.next (ws++List.replicate 12 []) x0 nilV :=
  ⟨t4.add,by show S.next≤S4.next+1;omega,fun i hi=>by rw[add_ne (by omega)];exact ol i hi,by rw[add_ne (by omega)];exact gk,by rw[add_ne (by omega)];exact gr,add_at,by omega,by omega⟩
 refine⟨S.next,S4.next,S3.next,(S4.add (.cells (stC x0 nilV) true)).put S4.next (.cells (stC x0 nilV) true),rv.put,fun {Q} hh=>?_⟩
 exact preN ESuok (onlyC_ok (oneC_ok c1)) 2 [0,2,4,5] (Eq.mp (vcFa _ S.next S4.next r S3.next S2.next ws.length (ws.length+12) u S S1 S2 S3 S4 (S4.add (.cells (stC x0 nilV) true)) _ (· = _))
  ⟨by rw[e1];kernel_rfl,ca oneC_at,by rw[e3];kernel_rfl,ap,by kernel_rfl,okS_of (storeW_at (z:=11) (B:=stC x0 nilV) (l:=stC x0 nilV) (by kernel_rfl) rfl rfl add_at),rfl⟩) hh
theorem ends9 {wl ws:List (List Nat)} (h:RV S X k x r wl (stX ws) V) (hg:Grw gN S.next X V (stX ws).dr) (ht:Tidy S) {y:St} {A:AV} {e:Bool} (hy:(y=x0∧A=nilV)∨(y=stX ws∧A=V))
  (hrun:Trip Tryz.prog S.next none c19 {m:=putArgs [.str u] 0 .e,n:=89,defs:=[]} S fun q=>q=(.ret,xFr [(2,.ptr (some (k,0))),(3,.bool e)] 89,X.put k (.cells (stC y A) true))) :
  ∃S',Call1 Tryz.prog 19 [.str u] S (.tuple [.agg (stC y A),.bool e],S')∧Gives gN S S' A y.dr:=by
 have hk:=h.tidy.lt h.gk
 have row:Grw gN S.next (X.put k (.cells (stC y A) true)) A y.dr:=by
  rcases hy with⟨rfl,rfl⟩ | ⟨rfl,rfl⟩
  ·exact .inl ⟨rfl,rfl⟩
  ·rcases hg with⟨q1,q2⟩ | ⟨r2,q0,q1,q2,q3⟩
   ·exact .inl ⟨q1,q2⟩
   ·refine .inr ⟨r2,q0,q1,q2,?_⟩
    rw[put_ne (fun e=>?_)]
    ·exact q3
    ·subst e
     have:=h.gk.symm.trans q3
     simp only[Option.some.injEq,AO.cells.injEq,and_true] at this
     have:=congrArg (fun l=>l[4]?) this
     simp only[List.getElem?_map] at this
     cases hh:(stX ws).dr[4]? with
     | none=>rw[hh] at this;cases this
     | some v=>rw[hh] at this;cases this
 have hlv:leaveA ESu Tryz.f19 (xFr [(2,.ptr (some (k,0))),(3,.bool e)] 89) (X.put k (.cells (stC y A) true))=some (.tuple [.agg (stC y A),.bool e],X.put k (.cells (stC y A) true)) :=
  leave_of (rs:=[.cell 2 51,.tmp 3]) (by kernel_rfl) rfl (res_cell (x:=.ptr (some (k,0))) (by kernel_rfl) (load_agg (z:=11) (by kernel_rfl) put_at (by kernel_rfl)) (res_tmp (by kernel_rfl) res_nil)) rfl
 refine endsRow ESuok (F:=xFr [(2,.ptr (some (k,0))),(3,.bool e)] 89) row (h.tidy.put hk) h.next (fun i hi=>by rw[put_ne (by have:=h.hk.1;omega)];exact h.old i hi) ht ?_ hlv hrun
 have hA:=Grw.refs row
 exact⟨⟨trivial,trivial,trivial,trivial,trivial,trivial,trivial,trivial,trivial,trivial,hA,trivial⟩,trivial,trivial⟩
theorem rStageOf_at (ht:Tidy S) (hb:byS u) (hl:u.length<40000000):∃V S',Call1 Tryz.prog 19 [.str u] S (.tuple [.agg (stC (stOf u).1 V),.bool (decide ((stOf u).2=0))],S')∧Gives gN S S' V (stOf u).1.dr:=by
 have hby:=splitC_by (c:=32) hb
 have hlw:=Nat.lt_of_le_of_lt (splitC_getD (c:=32) (s:=u) 11) hl
 obtain⟨k,x,r,X0,h0,b0⟩:=begin19 ht hb hl
 obtain⟨V,X2,b2,h2,hg⟩:=read19 (u:=u) hby h0 hlw
 have go:∀{Q:Exit×AFr×ASt→Prop},Trip Tryz.prog S.next none (dropC 8 c19) (xFr [(0,.str u),(2,.ptr (some (k,0))),(5,.ptr (some (x,0)))] 89) X2 Q→Trip Tryz.prog S.next none c19 {m:=putArgs [.str u] 0 .e,n:=89,defs:=[]} S Q:=fun {Q} hh=>b0 (b2 hh)
 generalize hws:splitC 32 u=ws at *
 have hbd:∀n,n∈(stX ws).dr→n<18446744073709551616:=fun n hn=>by have:=stX_dr ws n hn;unfold u64m at this;omega
 have stz:∀{y:St} {A:AV},Option.map (fun s=>(undefA,s)) (aStore ESu 51 (.ptr (some (k,0))) (.agg (stC y A)) X2)=some (.tuple [],X2.put k (.cells (stC y A) true)):=fun {y A}=>okS_of (storeW_at (z:=11) (by kernel_rfl) rfl rfl h2.gk)
 have fail:(¬(mayN (stX ws)∧stT (stX ws)=u))→(Trip Tryz.prog S.next none (dropC 8 c19) (xFr [(0,.str u),(2,.ptr (some (k,0))),(5,.ptr (some (x,0)))] 89) X2 fun q=>q=(.ret,xFr [(2,.ptr (some (k,0))),(3,.bool false)] 89,X2.put k (.cells (stC x0 nilV) true)))→∃V S',Call1 Tryz.prog 19 [.str u] S (.tuple [.agg (stC (stOf u).1 V),.bool (decide ((stOf u).2=0))],S')∧Gives gN S S' V (stOf u).1.dr:=fun hn hh=>by
  rw[stOf_no (by rw[hws];exact hn)]
  exact⟨nilV,ends9 h2 hg ht (.inl ⟨rfl,rfl⟩) (go hh)⟩
 have lx:aLoad ESu 51 (.ptr (some (x,0))) X2=some (.agg (stC (stX ws) V),X2):=load_agg (z:=11) (by kernel_rfl) h2.gx (by kernel_rfl)
 have hm20:Call1 Tryz.prog 20 [.agg (stC (stX ws) V)] X2 (.bool (decide (mayN (stX ws))),X2):=mayR_at hg.sl
 by_cases hm:mayN (stX ws)
 ·rw[decide_eq_true hm] at hm20
  have hm23:Call1 Tryz.prog 23 [.agg (stC (stX ws) V)] X2 (.str (stT (stX ws)),X2):=rtext_at hg.sl hm hbd
  have hq:=onlyC_ok (fs:=[60,61,62,63,64,20,23]) (orC_ok (oneC_ok hm20) (oneC_ok hm23))
  by_cases ht2:stT (stX ws)=u
  ·rw[stOf_yes (by rw[hws];exact⟨hm,ht2⟩),hws]
   refine⟨V,ends9 h2 hg ht (.inr ⟨rfl,rfl⟩) (go (pcR ESuok hq [2,3] (Eq.mp (vcFhr _ k x u (stX ws).b (stX ws).h (stX ws).c (stX ws).w (stX ws).p (stX ws).f (stX ws).z (stX ws).o (stX ws).t (stX ws).dig V (stT (stX ws)) X2 _ (· = _))
    ⟨lx,ca oL,lx,ca (oR oneC_at),by rw[opStrNe,decide_eq_true ht2];rfl,lx,stz (y:=stX ws) (A:=V),rfl⟩)))⟩
  ·exact fail (fun q=>ht2 q.2) (pcR ESuok hq [2,3] (Eq.mp (vcFgr _ k x u (stX ws).b (stX ws).h (stX ws).c (stX ws).w (stX ws).p (stX ws).f (stX ws).z (stX ws).o (stX ws).t (stX ws).dig V (stT (stX ws)) X2 _ (· = _))
    ⟨lx,ca oL,lx,ca (oR oneC_at),by rw[opStrNe,decide_eq_false ht2];rfl,stz (y:=x0) (A:=nilV),rfl⟩))
 ·rw[decide_eq_false hm] at hm20
  exact fail (fun q=>hm q.1) (pcR ESuok (onlyC_ok (oneC_ok hm20)) [2,3] (Eq.mp (vcFfr _ k x u (stX ws).b (stX ws).h (stX ws).c (stX ws).w (stX ws).p (stX ws).f (stX ws).z (stX ws).o (stX ws).t (stX ws).dig V X2 _ (· = _))
   ⟨lx,ca oneC_at,stz (y:=x0) (A:=nilV),rfl⟩))
end
noncomputable def slC (k:Nat) (ar:List AV) (V:AV) (L:List Nat) (v:AV):CallT:=fun f args st=>open Classical in if f=k∧args=ar∧SlR gN st V L then some (v,st) else none
theorem slC_ok {k:Nat} {ar:List AV} {V v:AV} {L:List Nat} (h:∀S:ASt,SlR gN S V L→Call1 Tryz.prog k ar S (v,S)):CallsOK Tryz.prog (slC k ar V L v):=fun B w0 f args st r hr ι w args' hsr hv=>by
 unfold slC at hr
 split at hr
 ·rename_i hh
  obtain⟨rfl,rfl,h3⟩:=hh
  simp only[Option.some.injEq] at hr
  subst hr
  exact h st h3 B w0 ι w args' hsr hv
 ·cases hr
theorem slC_at {k:Nat} {ar:List AV} {V v:AV} {L:List Nat} {st:ASt} (h:SlR gN st V L):slC k ar V L v k ar st=some (v,st):=by unfold slC;rw[if_pos ⟨rfl,rfl,h⟩]
theorem slC_no {k f:Nat} {ar args:List AV} {V v:AV} {L:List Nat} {st:ASt} (h:f≠k):slC k ar V L v f args st=none:=by unfold slC;rw[if_neg (fun q=>h q.1)]
def textE (x:St):List Nat×Nat:=if mayN x then (stT x,0) else ([],2)
section
variable {S:ASt} {V A B:AV} {x:St}
theorem StageText_at (hD:SlR gN S V x.dr) (hb:∀n,n∈x.dr→n<18446744073709551616):Call1 Tryz.prog 17 [.agg (stC x V)] S (.tuple [.str (textE x).1,.int .i64 (.ofNat (textE x).2)],S):=by
 obtain⟨V1,R,g1,g2,g3,g4⟩:=arD hD
 have hs:SlR gN (mkSt [(0,R)] 1) V1 x.dr:=g1.sl at10
 refine ro2 _ (pre10_ok ..) ?_ (tup_p (two_p (str_p ..) (int_p ..))) g2 g3 g4
 have h21:=slC_ok (k:=21) (ar:=[.agg (stC x V1)]) (V:=V1) (L:=x.dr) (v:=.bool (decide (mayN x))) fun S h=>mayS_at h
 unfold textE
 by_cases hm:mayN x
 ·rw[if_pos hm]
  rw[decide_eq_true hm] at h21
  have h54:=slC_ok (k:=54) (ar:=[.agg (stC x V1)]) (V:=V1) (L:=x.dr) (v:=.str (stT x)) fun S h=>stext_at h hm hb
  have hq:=onlyC_ok (fs:=[21,54]) (orC_ok h21 h54)
  obtain⟨b,h,c,w,dig,p,f,z,o,t,L⟩:=x
  cases g1 with
  | nil e=>exact AtMem.of_tm ESrok hq (Eq.mp (vcX1a b h c w p f z o t dig none 0 (.known 0) .dead _ (stT ⟨b,h,c,w,dig,p,f,z,o,t,L⟩) (· = _)) ⟨ca (orC_l (slC_at (ArD.sl (.nil e) (by kernel_rfl)))),ca (orC_r (slC_no (by decide)) (slC_at (ArD.sl (.nil e) (by kernel_rfl)))),rfl⟩)
  | zero e=>exact AtMem.of_tm ESrok hq (Eq.mp (vcX1b b h c w p f z o t dig none 0 (.known 0) .dead _ (stT ⟨b,h,c,w,dig,p,f,z,o,t,L⟩) (· = _)) ⟨ca (orC_l (slC_at (ArD.sl (.zero e) (by kernel_rfl)))),ca (orC_r (slC_no (by decide)) (slC_at (ArD.sl (.zero e) (by kernel_rfl)))),rfl⟩)
  | row e=>exact AtMem.of_tm ESrok hq (Eq.mp (vcX1a b h c w p f z o t dig (some (0,0)) L.length (.atl L.length) (.cells (L.map gN) false) _ (stT ⟨b,h,c,w,dig,p,f,z,o,t,L⟩) (· = _)) ⟨ca (orC_l (slC_at (ArD.sl (.row e) (by kernel_rfl)))),ca (orC_r (slC_no (by decide)) (slC_at (ArD.sl (.row e) (by kernel_rfl)))),rfl⟩)
 ·rw[if_neg hm]
  rw[decide_eq_false hm] at h21
  have hq:=onlyC_ok (fs:=[21,54]) h21
  obtain⟨b,h,c,w,dig,p,f,z,o,t,L⟩:=x
  cases g1 with
  | nil e=>exact AtMem.of_tm ESrok hq (Eq.mp (vcX0a b h c w p f z o t dig none 0 (.known 0) .dead _ (· = _)) ⟨ca (slC_at (ArD.sl (.nil e) (by kernel_rfl))),rfl⟩)
  | zero e=>exact AtMem.of_tm ESrok hq (Eq.mp (vcX0b b h c w p f z o t dig none 0 (.known 0) .dead _ (· = _)) ⟨ca (slC_at (ArD.sl (.zero e) (by kernel_rfl))),rfl⟩)
  | row e=>exact AtMem.of_tm ESrok hq (Eq.mp (vcX0a b h c w p f z o t dig (some (0,0)) L.length (.atl L.length) (.cells (L.map gN) false) _ (· = _)) ⟨ca (slC_at (ArD.sl (.row e) (by kernel_rfl))),rfl⟩)
theorem box_st {Y:ASt} {V:AV} (h:V.isCell=true):aBox (.agg (stC x V)) Y=some (.ptr (some (Y.next,0)),Y.add (.cells (stC x V) true)):=by
 cases V<;>first | (cases h;done) | kernel_rfl
theorem SlR.cell {α:Type} {enc:α→AV} {S:ASt} {V:AV} {L:List α} (h:SlR enc S V L):V.isCell=true:=by cases h<;>rfl
theorem SameStage_at (ht:Tidy S) (hA:SlR gN S A x.dr) (hB:SlR gN S B x.dr) (hb:∀n,n∈x.dr→n<18446744073709551616) (hl:x.dr.length≤100000):Call1 Tryz.prog 22 [.agg (stC x A),.agg (stC x B)] S (.bool true,S):=by
 obtain⟨S1,e1⟩:∃Y,Y=S.add (.cells (stC x A) true):=⟨_,rfl⟩
 obtain⟨S2,e2⟩:∃Y,Y=S1.add (.cells (stC x B) true):=⟨_,rfl⟩
 have n1:S1.next=S.next+1:=by rw[e1];rfl
 have n2:S2.next=S.next+2:=by rw[e2];show S1.next+1=_;omega
 have gA:(ASt.mk S2.h (S2.next+24)).h.get S.next=some (.cells (stC x A) true):=by show S2.h.get S.next=_;rw[e2,add_ne (by omega),e1];exact add_at
 have gB:(ASt.mk S2.h (S2.next+24)).h.get S1.next=some (.cells (stC x B) true):=by show S2.h.get S1.next=_;rw[e2];exact add_at
 have ol:∀i,i<S.next→(ASt.mk S2.h (S2.next+24)).h.get i=S.h.get i:=fun i hi=>by show S2.h.get i=_;rw[e2,add_ne (by omega),e1,add_ne (by omega)]
 have kA:SlR gN (ASt.mk S2.h (S2.next+24)) A x.dr:=hA.keep fun i a hi=>by rw[ol i (ht.lt hi)];exact hi
 have kB:SlR gN (ASt.mk S2.h (S2.next+24)) B x.dr:=hB.keep fun i a hi=>by rw[ol i (ht.lt hi)];exact hi
 have rA:Call1 Tryz.prog 67 [A] (ASt.mk S2.h (S2.next+24)) (.str (rowT x.dr),ASt.mk S2.h (S2.next+24)):=Row_at kA hb hl
 have rB:Call1 Tryz.prog 67 [B] (ASt.mk S2.h (S2.next+24)) (.str (rowT x.dr),ASt.mk S2.h (S2.next+24)):=Row_at kB hb hl
 have eq48:still (ASt.mk S2.h (S2.next+24)) (aBin ESu .eql 48 (.tmp 6) (.tmp 8) (.agg (pre10 x.b x.h x.c x.w x.p x.f x.z x.o x.t x.dig)) (.agg (pre10 x.b x.h x.c x.w x.p x.f x.z x.o x.t x.dig)))=some (.bool true,ASt.mk S2.h (S2.next+24)):=by
  have e:aBin ESu .eql 48 (.tmp 6) (.tmp 8) (.agg (pre10 x.b x.h x.c x.w x.p x.f x.z x.o x.t x.dig)) (.agg (pre10 x.b x.h x.c x.w x.p x.f x.z x.o x.t x.dig))=(match aEq ESu 12 48 (.agg (pre10 x.b x.h x.c x.w x.p x.f x.z x.o x.t x.dig)) (.agg (pre10 x.b x.h x.c x.w x.p x.f x.z x.o x.t x.dig)) with | some r=>some (.bool r) | none=>none):=by kernel_rfl
  rw[sEq_ok 12 48 _ (by kernel_rfl)] at e
  exact still_of e
 have lA:aLoad ESu 49 (.ptr (some (S.next,10))) (ASt.mk S2.h (S2.next+24))=some (A,ASt.mk S2.h (S2.next+24)):=load_at (by kernel_rfl) gA rfl
 have lB:aLoad ESu 49 (.ptr (some (S1.next,10))) (ASt.mk S2.h (S2.next+24))=some (B,ASt.mk S2.h (S2.next+24)):=load_at (by kernel_rfl) gB rfl
 have hq:=onlyC_ok (fs:=[67]) (orC_ok (rowC_ok (k:=67) (V:=A) (L:=x.dr) fun S h=>Row_at h hb hl) (rowC_ok (k:=67) (V:=B) (L:=x.dr) fun S h=>Row_at h hb hl))
 have cB:∀{q:CallT},orC (rowC 67 A x.dr) (rowC 67 B x.dr) 67 [B] (ASt.mk S2.h (S2.next+24))=some (.str (rowT x.dr),ASt.mk S2.h (S2.next+24)):=fun {q}=>by
  by_cases e:B=A
  ·subst e;exact orC_l (rowC_at kB)
  ·exact orC_r (by unfold rowC;rw[if_neg (fun q=>e (List.cons.inj q.2.1).1)]) (rowC_at kB)
 refine Call1.drop (S':=ASt.mk S2.h (S2.next+24)) (Call1.of_tm ESuok hq (Eq.mp (vcQa _ S.next S1.next x.dr.length x.b x.h x.c x.w x.p x.f x.z x.o x.t x.dig A B (rowT x.dr) S S1 S2 (· = _))
  ⟨by rw[e1];exact box_st (SlR.cell hA),by rw[e2];exact box_st (SlR.cell hB),load_agg (z:=10) (by kernel_rfl) gA (by kernel_rfl),load_agg (z:=10) (by kernel_rfl) gB (by kernel_rfl),eq48,lA,kA.len,lB,kB.len,eT rfl,lA,ca (orC_l (rowC_at kA)),lB,ca (cB (q:=noSum)),sT rfl,holds_cons (fstO_of lB) trivial,rfl⟩)) ol (bool_p ..)
theorem num_at' (z:Int):Call1 Tryz.prog 14 [.int .i64 z] S (.int .i64 z,S):=Call1.of_tm ESuok noSum_ok (Eq.mp (vcQn z S (· = _)) rfl)
end
end Go.Proofs.YtcboepooglaogaaGreatDoor.scr
end

section
open Go Go.Ax Go.Proofs
namespace Go.Proofs.YtcboepooglaogaaGreatDoor.scr
set_option linter.unusedVariables false
open spt
theorem sh4a:dropC 3 (dropC 1 c4)=.seq (seqL (dropC 5 c4)) (dropC 6 c4):=by kernel_rfl
theorem opBoolNe {Y:ASt} {x y:Operand} {a:Bool}:still Y (aBin ESu .neq 4 x y (.bool a) (.bool a))=some (.bool false,Y):=by cases a<;>kernel_rfl
theorem stOf_two (u:List Nat):(stOf u).2=0∨(stOf u).2=4:=by
 unfold stOf
 split
 ·exact .inl rfl
 ·exact .inr rfl
theorem stOf_dr (u:List Nat):(∀n,n∈(stOf u).1.dr→n<18446744073709551616)∧(stOf u).1.dr.length≤u.length+1:=by
 unfold stOf
 split
 ·refine⟨fun n hn=>by have:=stX_dr _ n hn;unfold u64m at this;omega,?_⟩
  unfold stX rowV
  simp only
  split
  ·simp
  ·rw[List.length_map]
   have h1:=splitC_len (c:=44) (s:=(splitC 32 u).getD 11 [])
   have h2:=splitC_getD (c:=32) (s:=u) 11
   omega
 ·exact⟨fun n hn=>(by cases hn),Nat.zero_le _⟩
section
variable {S:ASt} {A:AV} {x:St} {u:List Nat}
theorem law_at (ht:Tidy S) (hA:SlR gN S A x.dr) (hb:∀n,n∈x.dr→n<18446744073709551616) (hu:∀c,c∈u→c<256):Call1 Tryz.prog 4 [.agg (stC x A),.str u] S (.bool true,S):=by
 obtain⟨S1,e1⟩:∃Y,Y=S.add (.cells (stC x A) true):=⟨_,rfl⟩
 have n1:S1.next=S.next+1:=by rw[e1];rfl
 have t1:Tidy S1:=by rw[e1];exact ht.add
 have g1:S1.h.get S.next=some (.cells (stC x A) true):=by rw[e1];exact add_at
 have o1:∀i,i<S.next→S1.h.get i=S.h.get i:=fun i hi=>by rw[e1,add_ne (by omega)]
 have k1:SlR gN S1 A x.dr:=hA.keep fun i a hi=>by rw[o1 i (ht.lt hi)];exact hi
 have bx:aBox (.agg (stC x A)) S=some (.ptr (some (S.next,0)),S1):=by rw[e1];exact box_st (SlR.cell hA)
 have l1:aLoad ESu 49 (.ptr (some (S.next,10))) S1=some (A,S1):=load_at (by kernel_rfl) g1 rfl
 have ql:aBuiltinM ESu .len [9] [.str u] S1=some (.int .i64 (.ofNat u.length),S1):=by kernel_rfl
 have q15:CallsOK Tryz.prog (memC 15 [] (.bool true)):=memC_ok fun S=>known_at
 have hlv:∀Z:ASt,leaveA ESu Tryz.f4 (xFr [(4,.bool true)] 89) Z=some (.bool true,Z):=fun Z=>leave_of (rs:=[.tmp 4]) (by kernel_rfl) rfl (res_tmp (by kernel_rfl) res_nil) rfl
 by_cases h300:300<x.dr.length
 ·exact finR ESuok (c:=c4) (Z:=S1) (preE ESuok (onlyC_ok q15) 1 [4] (Eq.mp (vcLa _ S.next x.dr.length x.b x.h x.c x.w x.p x.f x.z x.o x.t x.dig A u S S1 (· = _)) ⟨bx,l1,k1.len,gT h300,ca (memC_at ..),rfl⟩)) (hlv S1) o1 (bool_p ..) trivial
 by_cases h20:20000<u.length
 ·exact finR ESuok (c:=c4) (Z:=S1) (preE ESuok (onlyC_ok q15) 1 [4] (Eq.mp (vcLb _ S.next x.dr.length u.length x.b x.h x.c x.w x.p x.f x.z x.o x.t x.dig A u S S1 (· = _)) ⟨bx,l1,k1.len,gF (by omega),ql,gT h20,ca (memC_at ..),rfl⟩)) (hlv S1) o1 (bool_p ..) trivial
 have hbu:byS u:=⟨hu,by omega⟩
 obtain⟨yd,yl⟩:=stOf_dr u
 have two:=stOf_two u
 have c17:Call1 Tryz.prog 17 [.agg (stC x A)] S1 (.tuple [.str (textE x).1,.int .i64 (.ofNat (textE x).2)],S1):=StageText_at k1 hb
 obtain⟨C,S2,c18,gC,t2,m2,o2⟩:=stageOf_at t1 hbu (by omega)
 have c19r:=fun (S:ASt) (ht:Tidy S)=>rStageOf_at (S:=S) ht hbu (by omega)
 generalize hy:stOf u=yy at *
 obtain⟨y,n⟩:=yy
 simp only at c18 gC yd yl two c19r
 obtain⟨S3,e3⟩:∃Y,Y=S2.add (.cells (stC x0 nilV) true):=⟨_,rfl⟩
 obtain⟨S4,e4⟩:∃Y,Y=S3.put S2.next (.cells (stC y C) true):=⟨_,rfl⟩
 have n3:S3.next=S2.next+1:=by rw[e3];rfl
 have n4:S4.next=S2.next+1:=by rw[e4,put_next,n3]
 have t4:Tidy S4:=by rw[e4];refine Tidy.put ?_ (by omega);rw[e3];exact t2.add
 have o4:∀i,i<S2.next→S4.h.get i=S2.h.get i:=fun i hi=>by rw[e4,put_ne (by omega),e3,add_ne (by omega)]
 have g7:S4.h.get S2.next=some (.cells (stC y C) true):=by rw[e4];exact put_at
 obtain⟨D,S5,c19,gD,t5,m5,o5⟩:=c19r S4 t4
 obtain⟨S6,e6⟩:∃Y,Y=S5.add (.cells (stC x0 nilV) true):=⟨_,rfl⟩
 obtain⟨S7,e7⟩:∃Y,Y=S6.put S5.next (.cells (stC y D) true):=⟨_,rfl⟩
 have n6:S6.next=S5.next+1:=by rw[e6];rfl
 have t7:Tidy S7:=by rw[e7];refine Tidy.put ?_ (by omega);rw[e6];exact t5.add
 have o7:∀i,i<S5.next→S7.h.get i=S5.h.get i:=fun i hi=>by rw[e7,put_ne (by omega),e6,add_ne (by omega)]
 have g9:S7.h.get S5.next=some (.cells (stC y D) true):=by rw[e7];exact put_at
 have hk1:S.next<S1.next:=by omega
 have o71:∀i,i<S1.next→S7.h.get i=S1.h.get i:=fun i hi=>by rw[o7 i (by omega),o5 i (by omega),o4 i (by omega),o2 i hi]
 have gk:S7.h.get S.next=some (.cells (stC x A) true):=by rw[o71 _ hk1];exact g1
 have g77:S7.h.get S2.next=some (.cells (stC y C) true):=by rw[o7 _ (by omega),o5 _ (by omega)];exact g7
 have kA:SlR gN S7 A x.dr:=k1.keep fun i a hi=>by rw[o71 i (t1.lt hi)];exact hi
 have kC:SlR gN S7 C y.dr:=(Grw.sl gC).keep fun i a hi=>by have:=t2.lt hi;rw[o7 i (by omega),o5 i (by omega),o4 i this];exact hi
 have kD:SlR gN S7 D y.dr:=(Grw.sl gD).keep fun i a hi=>by rw[o7 i (t5.lt hi)];exact hi
 have c20:Call1 Tryz.prog 20 [.agg (stC x A)] S7 (.bool (decide (mayN x)),S7):=mayR_at kA
 have c21:Call1 Tryz.prog 21 [.agg (stC x A)] S7 (.bool (decide (mayN x)),S7):=mayS_at kA
 have c22:Call1 Tryz.prog 22 [.agg (stC y C),.agg (stC y D)] S7 (.bool true,S7):=SameStage_at t7 kC kD yd (by omega)
 have lx1:aLoad ESu 51 (.ptr (some (S.next,0))) S1=some (.agg (stC x A),S1):=load_agg (z:=11) (by kernel_rfl) g1 (by kernel_rfl)
 have lx:aLoad ESu 51 (.ptr (some (S.next,0))) S7=some (.agg (stC x A),S7):=load_agg (z:=11) (by kernel_rfl) gk (by kernel_rfl)
 have ly:aLoad ESu 51 (.ptr (some (S2.next,0))) S7=some (.agg (stC y C),S7):=load_agg (z:=11) (by kernel_rfl) g77 (by kernel_rfl)
 have lw:aLoad ESu 51 (.ptr (some (S5.next,0))) S7=some (.agg (stC y D),S7):=load_agg (z:=11) (by kernel_rfl) g9 (by kernel_rfl)
 have q14:∀z:Int,CallsOK Tryz.prog (memC 14 [.int .i64 z] (.int .i64 z)):=fun z=>memC_ok fun S=>num_at' z
 refine finR ESuok (c:=c4) (Z:=S7) ?_ (hlv S7) (fun i hi=>by rw[o71 i (by omega)];exact o1 i hi) (bool_p ..) trivial
 refine preN ESuok noSum_ok 1 [1,2] (Eq.mp (vcLc S.next x.dr.length u.length x.b x.h x.c x.w x.p x.f x.z x.o x.t x.dig A u S S1 (· = _)) ⟨bx,l1,k1.len,gF (by omega),ql,gF (by omega),rfl⟩) ?_
 refine preN ESuok (onlyC_ok (orC_ok (oneC_ok c17) (orC_ok (oneC_ok c18) (orC_ok (oneC_ok c19) (oneC_ok c20))))) 3 [2,5,6,7,8,9,10,11] (Eq.mp (vcLd _ S.next S2.next S5.next (.ofNat (textE x).2) (.ofNat n) (decide (n=0)) (decide (mayN x)) x.b x.h x.c x.w x.p x.f x.z x.o x.t x.dig A u (textE x).1 y C D S1 S2 S3 S4 S5 S6 S7 (· = _))
  ⟨lx1,ca oL,ca (oR oL),by rw[e3];kernel_rfl,by rw[e4];exact okS_of (storeW_at (z:=11) (B:=stC x0 nilV) (by kernel_rfl) rfl rfl (by rw[e3];exact add_at)),ca (oR (oR oL)),by rw[e6];kernel_rfl,by rw[e7];exact okS_of (storeW_at (z:=11) (B:=stC x0 nilV) (by kernel_rfl) rfl rfl (by rw[e6];exact add_at)),lx,ca (oR (oR (oR oneC_at))),rfl⟩) ?_
 rw[sh4a]
 refine Trip.then (F:=xFr [(2,.ptr (some (S.next,0))),(5,.str (textE x).1),(6,.int .i64 (.ofNat (textE x).2)),(11,.bool (decide (mayN x)))] 89) (Z:=S7) ?_ ?_
 ·have hq:=onlyC_ok (fs:=[14,15,17,18,19,20,21,22,23]) (orC_ok (oneC_ok c21) (orC_ok (oneC_ok c22) (q14 (.ofNat n))))
  rcases two with rfl | rfl
  ·exact pcR ESuok hq [2,5,6,11] (Eq.mp (vcLe _ S.next S2.next S5.next (.ofNat (textE x).2) (.ofNat 0) (decide (mayN x)) (decide (mayN x)) x.b x.h x.c x.w x.p x.f x.z x.o x.t x.dig A u (textE x).1 y C D S7 (· = _)) ⟨lx,ca oL,opBoolNe,ly,lw,ca (oR oL),ca (oR (oR (memC_at ..))),eT rfl,opBoolNe,rfl⟩)
  ·exact pcR ESuok hq [2,5,6,11] (Eq.mp (vcLf _ S.next S2.next S5.next (.ofNat (textE x).2) (.ofNat 4) (decide (mayN x)) (decide (mayN x)) x.b x.h x.c x.w x.p x.f x.z x.o x.t x.dig A u (textE x).1 y C D S7 (· = _)) ⟨lx,ca oL,opBoolNe,ly,lw,ca (oR oL),ca (oR (oR (memC_at ..))),eF (by decide),opBoolNe,ca (oR (oR (memC_at ..))),nF rfl,rfl⟩)
 ·by_cases hm:mayN x
  ·have c23:Call1 Tryz.prog 23 [.agg (stC x A)] S7 (.str (stT x),S7):=rtext_at kA hm hb
   rw[decide_eq_true hm]
   have ex:textE x=(stT x,0):=by unfold textE;rw[if_pos hm]
   rw[ex]
   exact pcR ESuok (onlyC_ok (orC_ok (oneC_ok c23) (orC_ok (q14 (.ofNat 0)) q15))) [4] (Eq.mp (vcLh _ S.next (.ofNat 0) x.b x.h x.c x.w x.p x.f x.z x.o x.t x.dig A u (stT x) (stT x) S7 (· = _)) ⟨lx,ca oL,sT rfl,ca (oR (orC_l (memC_at ..))),eT rfl,ca (oR (orC_r (memC_no (by decide)) (memC_at ..))),rfl⟩)
  ·rw[decide_eq_false hm]
   have ex:textE x=([],2):=by unfold textE;rw[if_neg hm]
   rw[ex]
   exact pcR ESuok (onlyC_ok (orC_ok (q14 (.ofNat 2)) q15)) [4] (Eq.mp (vcLg _ S.next (.ofNat 2) [] S7 (· = _)) ⟨sT rfl,ca (orC_l (memC_at ..)),eT rfl,ca (orC_r (memC_no (by decide)) (memC_at ..)),rfl⟩)
end
end Go.Proofs.YtcboepooglaogaaGreatDoor.scr
end
