/-
  OWN WORK, A PART: an abstract machine for the program's text that the kernel can run, and the proof that it is sound: what it answers is what the program answers; contracts of functions by it. No condition.
-/
import Derived.Test.YtiafochainjglaaGreatDoorMtA
import Derived.Test.YtiafochainjglaaGreatDoorNtA
import Derived.KernelRfl
import Derived.Test.YtiafochainjglaaGreatDoorXtA
import Derived.Test.YtiafochainjglaaGreatDoorNtB
import Derived.Test.YtiafochainjglaaGreatDoorMtH
section
open Go Go.Ax Go.Proofs
namespace Go.Proofs.YtiafochainjglaaGreatDoor.drp.atu
set_option linter.unusedVariables false
open cd cd2 cd3 cd4 cd5 cd9 oo pu
noncomputable def fnsAu:List (Nat×Func):=[(6,Tryz.f6),(25,Tryz.f25),(26,Tryz.f26),(27,Tryz.f27),(30,Tryz.f30),(31,Tryz.f31),(32,Tryz.f32),(35,Tryz.f35),(78,Tryz.f78),(79,Tryz.f79),(80,Tryz.f80),(81,Tryz.f81),(82,Tryz.f82),(83,Tryz.f83),(84,Tryz.f84),(90,Tryz.f90),(120,Tryz.f120),(140,Tryz.f140),(141,Tryz.f141),(142,Tryz.f142),(143,Tryz.f143)]
noncomputable def EAu:Env:=envEx Tryz.prog [0,3,4,5,23,24,25,27,28,29,30,31,32,33,34,35,36,37,43,54,64,69,73,75,134,136,144,202] fnsAu []
noncomputable def c26:Code:=Option.getD Tryz.f26.body .skip
noncomputable def c27:Code:=Option.getD Tryz.f27.body .skip
noncomputable def c79:Code:=Option.getD Tryz.f79.body .skip
noncomputable def L79a:Code:=lopB (blkB (seqR (seqL (dropC 5 c79))))
noncomputable def L79b:Code:=lopB (blkB (seqR (seqL (dropC 6 c79))))
noncomputable def c25:Code:=Option.getD Tryz.f25.body .skip
noncomputable def thenB:Code→Code
 | .cond _ a _=>a
 | c=>c
noncomputable def B25:Code:=thenB (seqR (seqL (dropC 8 c25)))
noncomputable def L25:Code:=lopB (blkB (seqR (seqL B25)))
noncomputable def c6:Code:=Option.getD Tryz.f6.body .skip
noncomputable def L6:Code:=lopB (blkB (seqR (seqL (dropC 8 c6))))
noncomputable def B6:Code:=blkB (seqL (seqR L6))
noncomputable def LI6:Code:=lopB (blkB (seqR (seqL (seqR B6))))
noncomputable def opB0:Oper:=Oper.mk (some 111) (Op.buildSlice 69 1 #[(0,Operand.tmp 110)]) 69 "actlog.go:99" #[Edge.mk 5 Ground.data] none
noncomputable def opB1:Oper:=Oper.mk (some 120) (Op.buildSlice 69 1 #[(0,Operand.tmp 119)]) 69 "store.go:104" #[Edge.mk 7 Ground.data] none
noncomputable def opB2:Oper:=Oper.mk (some 5) (Op.buildSlice 69 0 #[]) 69 "slices.go:362" #[] none
noncomputable def bsO0 (fr:AFr) (st:ASt):Option (AV×ASt):=aOp EAu (M EAu (drawA EAu) noSum 45).call (M EAu (drawA EAu) noSum 45).round opB2 fr st
noncomputable def bsO1 (fr:AFr) (st:ASt):Option (AV×ASt):=aOp EAu (M EAu (drawA EAu) noSum 50).call (M EAu (drawA EAu) noSum 50).round opB2 fr st
noncomputable def bsO2 (fr:AFr) (st:ASt):Option (AV×ASt):=aOp EAu (M EAu (drawA EAu) noSum 52).call (M EAu (drawA EAu) noSum 52).round opB0 fr st
noncomputable def bsO3 (q:CallT) (fr:AFr) (st:ASt):Option (AV×ASt):=aOp EAu (M EAu (drawA EAu) (onlyC [78,54,55,79,80,81,82,83,84,35] q) 46).call (M EAu (drawA EAu) (onlyC [78,54,55,79,80,81,82,83,84,35] q) 46).round opB1 fr st
noncomputable def tHa (k s j mp:Nat) (g:Bool) (S:ASt):Tr (AV×ASt):=(TM EAu noSum [(32,⟨[9,16,17,23,25,26,27],[],[],[]⟩)] fl0 60).call 32 [.ptr (some (mp,0)),.int .i64 (.ofNat j)] S
noncomputable def tHb (k j mp:Nat) (S:ASt):Tr (AV×ASt):=(TM EAu noSum [(32,⟨[9,16,17,23,25,26,27],[],[],[]⟩)] fl0 60).call 32 [.ptr (some (mp,0)),.int .i64 (.ofNat j)] S
noncomputable abbrev kAuB_13:=TM EAu noSum [(35,⟨[],[7],[],[]⟩),(90,⟨[17,19,25,26,38,40,41,4094,4095],[10,31],[],[]⟩),(32,⟨[9,16,17,23,25,26,27],[],[],[]⟩),(142,⟨[9,10],[],[],[]⟩)] fl0 60
noncomputable def tMa (k s j mp r:Nat) (S S1:ASt):Tr (AV×ASt):=kAuB_13.call 35 [.ptr (some (mp,0)),.slice (some (r,0)) 1 (.known 1)] S
noncomputable def tMb (k s j mp r:Nat) (S:ASt):Tr (AV×ASt):=kAuB_13.call 35 [.ptr (some (mp,0)),.slice (some (r,0)) 1 (.known 1)] S
noncomputable def tMc (k j mp r:Nat) (S:ASt):Tr (AV×ASt):=kAuB_13.call 35 [.ptr (some (mp,0)),.slice (some (r,0)) 1 (.known 1)] S
noncomputable def tNa (k mp:Nat) (S S1:ASt):Tr (AV×ASt):=(TM EAu noSum [(81,⟨[5,8,12],[],[],[]⟩)] fl0 60).call 81 [.int .i64 (.ofNat k)] S
noncomputable def tFi (k mp:Nat) (u:Int) (S S1:ASt):Tr (AV×ASt):=(TM EAu noSum [(82,⟨[4095],[3,6],[],[]⟩),(142,⟨[9,10],[],[],[]⟩),(141,⟨[6,7,8],[],[],[]⟩)] fl0 60).call 82 [.ptr (some (mp,0))] S
noncomputable abbrev kAuB_15 (a:CallT):=TM EAu (onlyC [73,56,57] a) [(80,⟨[19,20,31,32,37,10,44,45,54,55,4095],[14,53],[],[]⟩),(81,⟨[5,8,12],[],[],[]⟩),(141,⟨[6,7,8],[],[],[]⟩)] fl0 60
noncomputable abbrev kAuB_31 (a b c:Nat):List AV:=[.ptr (some (a,0)),.int .i64 (.ofNat b),.int .i64 (.ofNat c)]
noncomputable def tLa (q:CallT) (d k n s u mp k1:Nat) (v:Int) (B:List Nat) (S S1 S2 S3 S4:ASt):Tr (AV×ASt):=(kAuB_15 q).call 80 (kAuB_31 d 4 k) S
noncomputable def tLb (q:CallT) (d k n s mp k1:Nat) (B:List Nat) (S S1 S2 S3:ASt):Tr (AV×ASt):=(kAuB_15 q).call 80 (kAuB_31 d 4 k) S
noncomputable def tLc (q:CallT) (d k n s u mp k1:Nat) (v:Int) (B:List Nat) (S S1 S2 S3:ASt):Tr (AV×ASt):=(kAuB_15 q).call 80 (kAuB_31 d 4 k) S
noncomputable def tSv (q:CallT) (d k n s mp:Nat) (B:List Nat) (S S1 S2:ASt):Tr (AV×ASt):=(TM EAu (onlyC [73,62,19,40] q) [(84,⟨[14,15,23,24,31,32,33,38],[10],[],[]⟩),(142,⟨[9,10],[],[],[]⟩)] fl0 60).call 84 [.ptr (some (mp,0)),.ptr (some (d,0)),.int .i64 (.ofNat 4)] S
noncomputable def tSy (q:CallT) (d k:Nat) (S:ASt):Tr (AV×ASt):=(TM EAu (onlyC [73] q) [(78,⟨[7,8,12,15,18],[11,17],[],[]⟩),(120,⟨[4,7,10],[],[],[]⟩)] fl0 60).call 78 [.ptr (some (d,0)),.int .i64 (.ofNat k)] S
noncomputable def tLy (q:CallT) (d n:Nat) (u:Nat) (S:ASt):Tr (AV×ASt):=(TM EAu (onlyC [73] q) [(140,⟨[9,10,25,27,28],[],[],[]⟩)] fl0 60).call 140 (kAuB_31 d 5 4) S
noncomputable def tGa (sp lp:Nat) (S:ASt):Tr (AV×ASt):=(TM EAu noSum [(30,⟨[8],[9],[],[]⟩),(83,⟨[8],[9],[],[]⟩),(143,⟨[5,7],[],[],[]⟩)] fl0 60).call 30 [.ptr (some (sp,0))] S
noncomputable def tGb (sp lp r n:Nat) (C:Cap) (W P2:AV) (S S1 S2:ASt):Tr (AV×ASt):=(TM EAu noSum [(30,⟨[8],[9],[],[]⟩),(83,⟨[8],[9],[],[]⟩),(143,⟨[5,7],[],[],[]⟩)] fl0 60).call 30 [.ptr (some (sp,0))] S
noncomputable def tGc (lp:Nat) (S:ASt):Tr (AV×ASt):=(TM EAu noSum [(83,⟨[8],[9],[],[]⟩),(143,⟨[5,7],[],[],[]⟩)] fl0 60).call 83 [.ptr (some (lp,0))] S
noncomputable def tGd (lp r n:Nat) (C:Cap) (W P2:AV) (S S1 S2:ASt):Tr (AV×ASt):=(TM EAu noSum [(83,⟨[8],[9],[],[]⟩),(143,⟨[5,7],[],[],[]⟩)] fl0 60).call 83 [.ptr (some (lp,0))] S
noncomputable def tMp (sp mp:Nat) (S:ASt):Tr (AV×ASt):=(TM EAu noSum [(31,⟨[8],[],[],[]⟩)] fl0 60).call 31 [.ptr (some (sp,0))] S
noncomputable abbrev kAuB_12:=TM EAu noSum [] fl0 60
noncomputable def tSu (sp k0:Nat) (x:Nat→Nat) (c:Bool) (S S1 S2:ASt):Tr (Exit×AFr×ASt):=kAuB_12.ex ⟨[2,9,4095],[],[],[]⟩ none c26 {m:=putArgs [.ptr (some (sp,0))] 0 .e,n:=10,defs:=[]} S
noncomputable def tTa (sp k0:Nat) (y:Nat→Nat) (S S1 S2:ASt):Tr (Exit×AFr×ASt):=kAuB_12.ex ⟨[2,9,4095],[],[],[]⟩ none c27 {m:=putArgs [.ptr (some (sp,0))] 0 .e,n:=10,defs:=[]} S
noncomputable abbrev kAuB_41 (a:CallT):=TM EAu (onlyC [140,56,59] a) [] fl0 60
noncomputable def tOa (q:CallT) (d room lp:Nat) (S S1:ASt):Tr (Exit×AFr×ASt):=(kAuB_41 q).ex ⟨[22,27,30,41,44,50,51,14,58,59,70,71,77,78,80,87,89,93,94,95,100,101,103,109,111,112,115,4094,4095],[],[],[]⟩ none (preC 5 c79) {m:=putArgs [.ptr (some (d,0)),.int .i64 (.ofNat 5),.int .i64 (.ofNat 4),.int .i64 (.ofNat room)] 0 .e,n:=117,defs:=[]} S
noncomputable def tOb (d room lp h:Nat) (S:ASt):Tr (Exit×AFr×ASt):=kAuB_12.ex ⟨[22,27,30,41,44,50,51,14,58,59,70,71,77,78,80,87,89,93,94,95,100,101,103,109,111,112,115,4094,4095],[],[],[]⟩ none (seqL (seqL (dropC 5 c79))) (xFr [(0,.ptr (some (d,0))),(1,.int .i64 (.ofNat 5)),(2,.int .i64 (.ofNat 4)),(3,.int .i64 (.ofNat room)),(11,.ptr (some (lp,0))),(12,.int .u16 (.ofNat h))] 117) S
noncomputable abbrev kAuB_4 (a b c d e:Nat):=xFr [(0,.ptr (some (a,0))),(1,.int .i64 (.ofNat 5)),(2,.int .i64 (.ofNat 4)),(3,.int .i64 (.ofNat b)),(11,.ptr (some (c,0))),(12,.int .u16 (.ofNat d)),(42,.int .i64 (.ofNat 4)),(43,.int .i64 (.ofNat e))] 117
noncomputable def tOc (q:CallT) (d room lp h i k1 n g:Nat) (B:List Nat) (S S1 S2:ASt):Tr (Exit×AFr×ASt):=(kAuB_41 q).ex ⟨[22,27,30,41,44,50,51,14,58,59,70,71,77,78,80,87,89,93,94,95,100,101,103,109,111,112,115,4094,4095],[],[],[]⟩ none L79a (kAuB_4 d room lp h i) S
noncomputable def tOd (q:CallT) (d room lp h i k1 n g nu:Nat) (B:List Nat) (S S1 S2:ASt):Tr (Exit×AFr×ASt):=(kAuB_41 q).ex ⟨[22,27,30,41,44,50,51,14,58,59,70,71,77,78,80,87,89,93,94,95,100,101,103,109,111,112,115,4094,4095],[],[],[]⟩ none L79a (kAuB_4 d room lp h i) S
noncomputable def tOe (q:CallT) (d room lp h i k1 n g nu:Nat) (B:List Nat) (S S1 S2:ASt):Tr (Exit×AFr×ASt):=(kAuB_41 q).ex ⟨[22,27,30,41,44,50,51,14,58,59,70,71,77,78,80,87,89,93,94,95,100,101,103,109,111,112,115,4094,4095],[],[],[]⟩ none L79a (kAuB_4 d room lp h i) S
noncomputable def tOf (q:CallT) (d room lp h i k1 n g nu:Nat) (B:List Nat) (S S1 S2 S3:ASt):Tr (Exit×AFr×ASt):=(kAuB_41 q).ex ⟨[22,27,30,41,44,50,51,14,58,59,70,71,77,78,80,87,89,93,94,95,100,101,103,109,111,112,115,4094,4095],[],[],[]⟩ none L79a (kAuB_4 d room lp h i) S
noncomputable def tOg (d room lp h i:Nat) (S:ASt):Tr (Exit×AFr×ASt):=kAuB_12.ex ⟨[22,27,30,41,44,50,51,14,58,59,70,71,77,78,80,87,89,93,94,95,100,101,103,109,111,112,115,4094,4095],[],[],[]⟩ none L79a (kAuB_4 d room lp h i) S
noncomputable def tOh (room lp h:Nat) (S:ASt):Tr (Exit×AFr×ASt):=kAuB_12.ex ⟨[22,27,30,41,44,50,51,14,58,59,70,71,77,78,80,87,89,93,94,95,100,101,103,109,111,112,115,4094,4095],[],[],[]⟩ none (seqL (seqL (dropC 6 c79))) (xFr [(3,.int .i64 (.ofNat room)),(11,.ptr (some (lp,0))),(12,.int .u16 (.ofNat h))] 117) S
noncomputable abbrev kAuB_18 (a b c d:Nat):=xFr [(3,.int .i64 (.ofNat a)),(11,.ptr (some (b,0))),(12,.int .u16 (.ofNat c)),(88,.int .i64 (.ofNat d))] 117
noncomputable def tOi (room lp h x:Nat) (S:ASt):Tr (Exit×AFr×ASt):=kAuB_12.ex ⟨[22,27,30,41,44,50,51,14,58,59,70,71,77,78,80,87,89,93,94,95,100,101,103,109,111,112,115,4094,4095],[],[],[]⟩ none L79b (kAuB_18 room lp h x) S
noncomputable def tOj (room lp h x n:Nat) (P:AV) (S:ASt):Tr (Exit×AFr×ASt):=kAuB_12.ex ⟨[22,27,30,41,44,50,51,14,58,59,70,71,77,78,80,87,89,93,94,95,100,101,103,109,111,112,115,4094,4095],[],[],[]⟩ none L79b (kAuB_18 room lp h x) S
noncomputable def tOk (room lp h x n:Nat) (P W P2:AV) (S S1 S2 S3:ASt):Tr (Exit×AFr×ASt):=kAuB_12.ex ⟨[22,27,30,41,44,50,51,14,58,59,70,71,77,78,80,87,89,93,94,95,100,101,103,109,111,112,115,4094,4095],[],[],[]⟩ none L79b (kAuB_18 room lp h x) S
noncomputable def tOl (room lp h x:Nat) (S:ASt):Tr (Exit×AFr×ASt):=kAuB_12.ex ⟨[22,27,30,41,44,50,51,14,58,59,70,71,77,78,80,87,89,93,94,95,100,101,103,109,111,112,115,4094,4095],[],[],[]⟩ none L79b (kAuB_18 room lp h x) S
noncomputable def tOm (lp:Nat) (S:ASt):Tr (Exit×AFr×ASt):=kAuB_12.ex ⟨[22,27,30,41,44,50,51,14,58,59,70,71,77,78,80,87,89,93,94,95,100,101,103,109,111,112,115,4094,4095],[],[],[]⟩ none (dropC 7 c79) (xFr [(11,.ptr (some (lp,0)))] 117) S
noncomputable abbrev kAuB_5 (a:CallT):=onlyC [78,54,55,79,80,81,82,83,84,35] a
noncomputable def tAa (q:CallT) (d k room sp lp t:Nat) (x y:Nat→Nat) (c:Bool) (S S1 S2 S3 S4 S5:ASt):Tr (Exit×AFr×ASt):=(TM EAu (kAuB_5 q) [] fl0 60).ex ⟨[17,22,25,30,34,45,58,70,84,92,93,98,102,103,104,106,107,108,115,117,119,120,121,123,127,129,4094,4095],[],[],[]⟩ none (preC 7 c25) {m:=putArgs (kAuB_31 d k room) 0 .e,n:=134,defs:=[]} S
noncomputable def tAb (q:CallT) (d k sp mp:Nat) (S S1 S2:ASt):Tr (Exit×AFr×ASt):=(TM EAu (kAuB_5 q) [] fl0 60).ex ⟨[17,22,25,30,34,45,58,70,84,92,93,98,102,103,104,106,107,108,115,117,119,120,121,123,127,129,4094,4095],[],[],[]⟩ none (seqL (dropC 7 c25)) (xFr [(0,.ptr (some (d,0))),(1,.int .i64 (.ofNat k)),(9,.ptr (some (sp,0)))] 134) S
noncomputable def tAc (q:CallT) (d k sp mp:Nat) (S S1 S2 S3 S4 S5:ASt):Tr (Exit×AFr×ASt):=(TM EAu (kAuB_5 q) [] fl0 60).ex ⟨[17,22,25,30,34,45,58,70,84,92,93,98,102,103,104,106,107,108,115,117,119,120,121,123,127,129,4094,4095],[],[],[]⟩ none (seqL (dropC 7 c25)) (xFr [(0,.ptr (some (d,0))),(1,.int .i64 (.ofNat k)),(9,.ptr (some (sp,0)))] 134) S
noncomputable def tAd (d sp:Nat) (c:Bool) (S:ASt):Tr (Exit×AFr×ASt):=kAuB_12.ex ⟨[17,22,25,30,34,45,58,70,84,92,93,98,102,103,104,106,107,108,115,117,119,120,121,123,127,129,4094,4095],[],[],[]⟩ none (seqL (seqL (dropC 8 c25))) (xFr [(0,.ptr (some (d,0))),(9,.ptr (some (sp,0)))] 134) S
noncomputable def tAe (q:CallT) (d sp lp n:Nat) (P:AV) (S S1:ASt):Tr (Exit×AFr×ASt):=(TM EAu (kAuB_5 q) [] fl0 60).ex ⟨[17,22,25,30,34,45,58,70,84,92,93,98,102,103,104,106,107,108,115,117,119,120,121,123,127,129,4094,4095],[],[],[]⟩ none (seqL (seqL B25)) (xFr [(0,.ptr (some (d,0))),(9,.ptr (some (sp,0)))] 134) S
noncomputable def tAf (q:CallT) (d sp mp n i r x e0 e1 e2 e3:Nat) (P W0 W1 W2 W3:AV) (S S1 S2 S3 S4 S5 S6 S7 S8:ASt):Tr (Exit×AFr×ASt):=(TM EAu (kAuB_5 q) [] fl0 60).ex ⟨[17,22,25,30,34,45,58,70,84,92,93,98,102,103,104,106,107,108,115,117,119,120,121,123,127,129,4094,4095],[],[],[]⟩ none L25 (xFr [(0,.ptr (some (d,0))),(9,.ptr (some (sp,0))),(103,P),(104,.int .i64 (.ofNat n)),(105,.int .i64 (.ofNat i))] 134) S
noncomputable def tAg (d sp n i:Nat) (P:AV) (S:ASt):Tr (Exit×AFr×ASt):=kAuB_12.ex ⟨[17,22,25,30,34,45,58,70,84,92,93,98,102,103,104,106,107,108,115,117,119,120,121,123,127,129,4094,4095],[],[],[]⟩ none L25 (xFr [(0,.ptr (some (d,0))),(9,.ptr (some (sp,0))),(103,P),(104,.int .i64 (.ofNat n)),(105,.int .i64 (.ofNat i))] 134) S
noncomputable def tAh (q:CallT) (d sp mp:Nat) (S S1:ASt):Tr (Exit×AFr×ASt):=(TM EAu (kAuB_5 q) [] fl0 60).ex ⟨[17,22,25,30,34,45,58,70,84,92,93,98,102,103,104,106,107,108,115,117,119,120,121,123,127,129,4094,4095],[],[],[]⟩ none (seqR B25) (xFr [(0,.ptr (some (d,0))),(9,.ptr (some (sp,0)))] 134) S
noncomputable def tAi (sp:Nat) (S:ASt):Tr (Exit×AFr×ASt):=kAuB_12.ex ⟨[17,22,25,30,34,45,58,70,84,92,93,98,102,103,104,106,107,108,115,117,119,120,121,123,127,129,4094,4095],[],[],[]⟩ none (dropC 9 c25) (xFr [(9,.ptr (some (sp,0)))] 134) S
noncomputable abbrev kAuB_14 (a:CallT):=TM EAu (onlyC [11,9,14,16,25,26,27,28,30,29,31,32] a) [] fl0 60
noncomputable def tWa (q:CallT) (b s:Int) (c:Bool) (x:Nat→Nat) (Z:Nat→Int) (t:Nat) (mk:Bool) (se nu ho:Nat) (room:Int) (k0:Nat) (S S1:ASt):Tr (Exit×AFr×ASt):=(kAuB_14 q).ex ⟨[2,13,14,18,22,26,27,32,33,39,41,52,54,55,59,61,62,65,67,69,71,74,77,78,80,82,86,88,89,90,91,95,96,98,103,107,108,110,111,116,118,119,24,4094,4095],[],[],[]⟩ none c6 {m:=putArgs [.agg (mG b s c x Z t mk se nu ho),.int .i64 room] 0 .e,n:=120,defs:=[]} S
noncomputable def tWb (q:CallT) (b s:Int) (c:Bool) (x:Nat→Nat) (Z:Nat→Int) (t:Nat) (mk:Bool) (se nu ho:Nat) (room:Int) (k0:Nat) (S S1:ASt):Tr (Exit×AFr×ASt):=(kAuB_14 q).ex ⟨[2,13,14,18,22,26,27,32,33,39,41,52,54,55,59,61,62,65,67,69,71,74,77,78,80,82,86,88,89,90,91,95,96,98,103,107,108,110,111,116,118,119,24,4094,4095],[],[],[]⟩ none c6 {m:=putArgs [.agg (mG b s c x Z t mk se nu ho),.int .i64 room] 0 .e,n:=120,defs:=[]} S
noncomputable def tWc (q:CallT) (b s:Int) (c:Bool) (x:Nat→Nat) (Z:Nat→Int) (t:Nat) (mk:Bool) (se nu ho:Nat) (room:Int) (k0:Nat) (S S1:ASt):Tr (Exit×AFr×ASt):=(kAuB_14 q).ex ⟨[2,13,14,18,22,26,27,32,33,39,41,52,54,55,59,61,62,65,67,69,71,74,77,78,80,82,86,88,89,90,91,95,96,98,103,107,108,110,111,116,118,119,24,4094,4095],[],[],[]⟩ none c6 {m:=putArgs [.agg (mG b s c x Z t mk se nu ho),.int .i64 room] 0 .e,n:=120,defs:=[]} S
noncomputable def tWd (q:CallT) (k t se nu ho:Nat) (x y:Nat→Nat) (c mk:Bool) (room k0 d sp mp:Nat) (P P2:AV) (S S1 S2 S3 S4 S5 S6:ASt):Tr (Exit×AFr×ASt):=(kAuB_14 q).ex ⟨[2,13,14,18,22,26,27,32,33,39,41,52,54,55,59,61,62,65,67,69,71,74,77,78,80,82,86,88,89,90,91,95,96,98,103,107,108,110,111,116,118,119,24,4094,4095],[],[],[]⟩ none (preC 8 c6) {m:=putArgs [.agg (mL k x c y t mk se nu ho),.int .i64 (.ofNat room)] 0 .e,n:=120,defs:=[]} S
noncomputable def tWe (k0 mp:Nat) (P:AV) (S:ASt):Tr (Exit×AFr×ASt):=kAuB_12.ex ⟨[2,13,14,18,22,26,27,32,33,39,41,52,54,55,59,61,62,65,67,69,71,74,77,78,80,82,86,88,89,90,91,95,96,98,103,107,108,110,111,116,118,119,24,4094,4095],[],[],[]⟩ none (seqL (seqL (dropC 8 c6))) (xFr [(2,.ptr (some (k0,0))),(8,P),(9,.ptr (some (mp,0)))] 120) S
noncomputable abbrev kAuB_17 (a:Nat) (b:AV) (c d:Nat):=xFr [(2,.ptr (some (a,0))),(8,b),(9,.ptr (some (c,0))),(10,.int .i64 (.ofNat d))] 120
noncomputable def tWf (k0 mp i k:Nat) (P:AV) (S:ASt):Tr (Exit×AFr×ASt):=kAuB_12.ex ⟨[2,13,14,18,22,26,27,32,33,39,41,52,54,55,59,61,62,65,67,69,71,74,77,78,80,82,86,88,89,90,91,95,96,98,103,107,108,110,111,116,118,119,24,4094,4095],[],[],[]⟩ none (seqL L6) (kAuB_17 k0 P mp i) S
noncomputable def tWg (k0 mp i k:Nat) (P:AV) (S:ASt):Tr (Exit×AFr×ASt):=kAuB_12.ex ⟨[2,13,14,18,22,26,27,32,33,39,41,52,54,55,59,61,62,65,67,69,71,74,77,78,80,82,86,88,89,90,91,95,96,98,103,107,108,110,111,116,118,119,24,4094,4095],[],[],[]⟩ none L6 (kAuB_17 k0 P mp i) S
noncomputable def tWh (k0 mp i:Nat) (P:AV) (S:ASt):Tr (Exit×AFr×ASt):=kAuB_12.ex ⟨[2,13,14,18,22,26,27,32,33,39,41,52,54,55,59,61,62,65,67,69,71,74,77,78,80,82,86,88,89,90,91,95,96,98,103,107,108,110,111,116,118,119,24,4094,4095],[],[],[]⟩ none (seqL (B6)) (kAuB_17 k0 P mp i) S
noncomputable def tWi (k0 mp i se:Nat) (g:Bool) (P:AV) (S:ASt):Tr (Exit×AFr×ASt):=kAuB_12.ex ⟨[2,13,14,18,22,26,27,32,33,39,41,52,54,55,59,61,62,65,67,69,71,74,77,78,80,82,86,88,89,90,91,95,96,98,103,107,108,110,111,116,118,119,24,4094,4095],[],[],[]⟩ none (seqL (B6)) (kAuB_17 k0 P mp i) S
noncomputable def tWj (k0 mp i:Nat) (g:Bool) (P:AV) (S:ASt):Tr (Exit×AFr×ASt):=kAuB_12.ex ⟨[2,13,14,18,22,26,27,32,33,39,41,52,54,55,59,61,62,65,67,69,71,74,77,78,80,82,86,88,89,90,91,95,96,98,103,107,108,110,111,116,118,119,24,4094,4095],[],[],[]⟩ none (seqL (seqL (seqR B6))) (xFr [(2,.ptr (some (k0,0))),(8,P),(9,.ptr (some (mp,0))),(10,.int .i64 (.ofNat i)),(11,.bool g)] 120) S
noncomputable def tWk (k0 mp i j n:Nat) (P:AV) (S:ASt):Tr (Exit×AFr×ASt):=kAuB_12.ex ⟨[2,13,14,18,22,26,27,32,33,39,41,52,54,55,59,61,62,65,67,69,71,74,77,78,80,82,86,88,89,90,91,95,96,98,103,107,108,110,111,116,118,119,24,4094,4095],[],[],[]⟩ none LI6 (xFr [(2,.ptr (some (k0,0))),(8,P),(9,.ptr (some (mp,0))),(10,.int .i64 (.ofNat i)),(11,.bool true),(12,.int .i64 (.ofNat j))] 120) S
noncomputable def tWl (k0 mp i j n:Nat) (P:AV) (S:ASt):Tr (Exit×AFr×ASt):=kAuB_12.ex ⟨[2,13,14,18,22,26,27,32,33,39,41,52,54,55,59,61,62,65,67,69,71,74,77,78,80,82,86,88,89,90,91,95,96,98,103,107,108,110,111,116,118,119,24,4094,4095],[],[],[]⟩ none LI6 (xFr [(2,.ptr (some (k0,0))),(8,P),(9,.ptr (some (mp,0))),(10,.int .i64 (.ofNat i)),(11,.bool false),(12,.int .i64 (.ofNat j))] 120) S
noncomputable def tWm (k0 mp i j n r e:Nat) (g:Bool) (P:AV) (S:ASt):Tr (Exit×AFr×ASt):=kAuB_12.ex ⟨[2,13,14,18,22,26,27,32,33,39,41,52,54,55,59,61,62,65,67,69,71,74,77,78,80,82,86,88,89,90,91,95,96,98,103,107,108,110,111,116,118,119,24,4094,4095],[],[],[]⟩ none LI6 (xFr [(2,.ptr (some (k0,0))),(8,P),(9,.ptr (some (mp,0))),(10,.int .i64 (.ofNat i)),(11,.bool false),(12,.int .i64 (.ofNat j))] 120) S
noncomputable def tWn (k0 mp i j n:Nat) (g:Bool) (P:AV) (S:ASt):Tr (Exit×AFr×ASt):=kAuB_12.ex ⟨[2,13,14,18,22,26,27,32,33,39,41,52,54,55,59,61,62,65,67,69,71,74,77,78,80,82,86,88,89,90,91,95,96,98,103,107,108,110,111,116,118,119,24,4094,4095],[],[],[]⟩ none LI6 (xFr [(2,.ptr (some (k0,0))),(8,P),(9,.ptr (some (mp,0))),(10,.int .i64 (.ofNat i)),(11,.bool g),(12,.int .i64 (.ofNat j))] 120) S
noncomputable def tWo (q:CallT) (k0 mp i:Nat) (g:Bool) (P:AV) (S:ASt):Tr (Exit×AFr×ASt):=(kAuB_14 q).ex ⟨[2,13,14,18,22,26,27,32,33,39,41,52,54,55,59,61,62,65,67,69,71,74,77,78,80,82,86,88,89,90,91,95,96,98,103,107,108,110,111,116,118,119,24,4094,4095],[],[],[]⟩ none (seqR (seqR B6)) (xFr [(2,.ptr (some (k0,0))),(8,P),(9,.ptr (some (mp,0))),(10,.int .i64 (.ofNat i)),(11,.bool g)] 120) S
noncomputable def tWp (k0 mp i:Nat) (P:AV) (S:ASt):Tr (Exit×AFr×ASt):=kAuB_12.ex ⟨[2,13,14,18,22,26,27,32,33,39,41,52,54,55,59,61,62,65,67,69,71,74,77,78,80,82,86,88,89,90,91,95,96,98,103,107,108,110,111,116,118,119,24,4094,4095],[],[],[]⟩ none (seqR (seqR L6)) (kAuB_17 k0 P mp i) S
noncomputable def tWq (q:CallT) (S:ASt):Tr (Exit×AFr×ASt):=(kAuB_14 q).ex ⟨[2,13,14,18,22,26,27,32,33,39,41,52,54,55,59,61,62,65,67,69,71,74,77,78,80,82,86,88,89,90,91,95,96,98,103,107,108,110,111,116,118,119,24,4094,4095],[],[],[]⟩ none (dropC 9 c6) (xFr [] 120) S
noncomputable abbrev kAuB_0 (a:Nat):=AV.int .i64 (.ofNat a)
noncomputable abbrev kAuB_1 (a b c:Nat):=aLoad EAu a (AV.ptr (some (b,c)))
noncomputable abbrev kAuB_2 (a:Nat):=AV.int .u64 (.ofNat a)
noncomputable abbrev kAuB_8:=Operand.const (Value.int .i64 0)
noncomputable abbrev kAuB_11:=Operand.const (Value.int .u64 1)
noncomputable abbrev kAuB_22 (a b:Nat):=AV.int .u64 (.ofNat (a / 2 ^ b % 2))
noncomputable abbrev kAuB_25 (a b:Nat):=AV.int .u64 (.ofNat (a / 2 ^ b))
theorem vcHa (k s j mp:Nat) (g:Bool) (S:ASt) (Q:AV×ASt→Prop) :
 Vq (tHa k s j mp g S) Q (as_ S (aBin EAu .geq 3 (.tmp 8) kAuB_8 (kAuB_0 j) (kAuB_0 0)) (.bool true) (al (kAuB_1 3 mp 0) S (kAuB_0 k) (as_ S (aBin EAu .lss 3 (.tmp 12) (.tmp 16) (kAuB_0 j) (kAuB_0 k)) (.bool true) (al (kAuB_1 24 mp 1) S (kAuB_2 s) (as_ S (aBin EAu .shr 24 (.tmp 23) (.tmp 24) (kAuB_2 s) (kAuB_0 j)) (kAuB_25 s j) (as_ S (aBin EAu .and 24 (.tmp 25) kAuB_11 (kAuB_25 s j) (kAuB_2 1)) (kAuB_22 s j) (as_ S (aBin EAu .eql 24 (.tmp 26) kAuB_11 (kAuB_22 s j) (kAuB_2 1)) (.bool g) (aq (Q (.bool g,S)))))))))):=vq (by kernel_rfl)
theorem vcHb (k j mp:Nat) (S:ASt) (Q:AV×ASt→Prop) :
 Vq (tHb k j mp S) Q (as_ S (aBin EAu .geq 3 (.tmp 8) kAuB_8 (kAuB_0 j) (kAuB_0 0)) (.bool true) (al (kAuB_1 3 mp 0) S (kAuB_0 k) (as_ S (aBin EAu .lss 3 (.tmp 12) (.tmp 16) (kAuB_0 j) (kAuB_0 k)) (.bool false) (aq (Q (.bool false,S)))))):=vq (by kernel_rfl)
noncomputable abbrev kAuB_29 (a:ASt) (b:Nat):=ASt.mk a.h (a.next+b)
theorem vcMa (k s j mp r:Nat) (S S1:ASt) (Q:AV×ASt→Prop) :
 Vq (tMa k s j mp r S S1) Q (al (kAuB_1 3 mp 0) S (kAuB_0 k) (as_ S (aBin EAu .gtr 3 (.tmp 9) kAuB_8 (kAuB_0 k) (kAuB_0 0)) (.bool true) (al (kAuB_1 3 r 0) S (kAuB_0 j) (as_ S (aBin EAu .lss 3 (.tmp 18) kAuB_8 (kAuB_0 j) (kAuB_0 0)) (.bool false) (al (kAuB_1 3 mp 0) S (kAuB_0 k) (as_ S (aBin EAu .geq 3 (.tmp 21) (.tmp 25) (kAuB_0 j) (kAuB_0 k)) (.bool false) (as_ S (aBin EAu .geq 3 (.tmp 8) kAuB_8 (kAuB_0 j) (kAuB_0 0)) (.bool true) (al (kAuB_1 3 mp 0) S (kAuB_0 k) (as_ S (aBin EAu .lss 3 (.tmp 12) (.tmp 16) (kAuB_0 j) (kAuB_0 k)) (.bool true) (al (kAuB_1 24 mp 1) S (kAuB_2 s) (as_ S (aBin EAu .shr 24 (.tmp 23) (.tmp 24) (kAuB_2 s) (kAuB_0 j)) (kAuB_25 s j) (as_ S (aBin EAu .and 24 (.tmp 25) kAuB_11 (kAuB_25 s j) (kAuB_2 1)) (kAuB_22 s j) (as_ S (aBin EAu .eql 24 (.tmp 26) kAuB_11 (kAuB_22 s j) (kAuB_2 1)) (.bool false) (al (kAuB_1 24 mp 1) (kAuB_29 S 10) (kAuB_2 s) (as_ (kAuB_29 S 10) (aBin EAu .shl 24 kAuB_11 (.tmp 39) (kAuB_2 1) (kAuB_0 j)) (.int .u64 (.ofNat (2 ^ j))) (as_ (kAuB_29 S 10) (aBin EAu .xor 24 (.tmp 38) (.tmp 40) (kAuB_2 s) (.int .u64 (.ofNat (2 ^ j)))) (.int .u64 (.ofNat (Nat.xor s (2 ^ j)))) (aa (Option.map (fun s=>(undefA,s)) (aStore EAu 24 (.ptr (some (mp,1))) (.int .u64 (.ofNat (Nat.xor s (2 ^ j)))) (kAuB_29 S 10))) (.tuple [],S1) (ah (holdsO []) (aq (Q (.int .i64 (.ofNat 1),S1))))))))))))))))))))):=vq (by kernel_rfl)
theorem vcMb (k s j mp r:Nat) (S:ASt) (Q:AV×ASt→Prop) :
 Vq (tMb k s j mp r S) Q (al (kAuB_1 3 mp 0) S (kAuB_0 k) (as_ S (aBin EAu .gtr 3 (.tmp 9) kAuB_8 (kAuB_0 k) (kAuB_0 0)) (.bool true) (al (kAuB_1 3 r 0) S (kAuB_0 j) (as_ S (aBin EAu .lss 3 (.tmp 18) kAuB_8 (kAuB_0 j) (kAuB_0 0)) (.bool false) (al (kAuB_1 3 mp 0) S (kAuB_0 k) (as_ S (aBin EAu .geq 3 (.tmp 21) (.tmp 25) (kAuB_0 j) (kAuB_0 k)) (.bool false) (as_ S (aBin EAu .geq 3 (.tmp 8) kAuB_8 (kAuB_0 j) (kAuB_0 0)) (.bool true) (al (kAuB_1 3 mp 0) S (kAuB_0 k) (as_ S (aBin EAu .lss 3 (.tmp 12) (.tmp 16) (kAuB_0 j) (kAuB_0 k)) (.bool true) (al (kAuB_1 24 mp 1) S (kAuB_2 s) (as_ S (aBin EAu .shr 24 (.tmp 23) (.tmp 24) (kAuB_2 s) (kAuB_0 j)) (kAuB_25 s j) (as_ S (aBin EAu .and 24 (.tmp 25) kAuB_11 (kAuB_25 s j) (kAuB_2 1)) (kAuB_22 s j) (as_ S (aBin EAu .eql 24 (.tmp 26) kAuB_11 (kAuB_22 s j) (kAuB_2 1)) (.bool true) (aq (Q (.int .i64 (.ofNat 0),S)))))))))))))))):=vq (by kernel_rfl)
theorem vcMc (k j mp r:Nat) (S:ASt) (Q:AV×ASt→Prop) :
 Vq (tMc k j mp r S) Q (al (kAuB_1 3 mp 0) S (kAuB_0 k) (as_ S (aBin EAu .gtr 3 (.tmp 9) kAuB_8 (kAuB_0 k) (kAuB_0 0)) (.bool true) (al (kAuB_1 3 r 0) S (kAuB_0 j) (as_ S (aBin EAu .lss 3 (.tmp 18) kAuB_8 (kAuB_0 j) (kAuB_0 0)) (.bool false) (al (kAuB_1 3 mp 0) S (kAuB_0 k) (as_ S (aBin EAu .geq 3 (.tmp 21) (.tmp 25) (kAuB_0 j) (kAuB_0 k)) (.bool true) (aq (Q (.int .i64 (.ofNat 0),S))))))))):=vq (by kernel_rfl)
noncomputable abbrev kAuB_6:=Operand.const (Value.int .i64 1)
noncomputable abbrev kAuB_10 (a b:Nat):List AV:=[.ptr (some (a,0)),.int .i64 (.ofNat b)]
noncomputable abbrev kAuB_27 (a:Nat) (b:ASt):=aBox (AV.agg [AV.int .i64 (.ofNat a),AV.int .u64 (.ofNat 0)]) b
noncomputable abbrev kAuB_30:=Operand.const (Value.int .i64 64)
theorem vcNa (k mp:Nat) (S S1:ASt) (Q:AV×ASt→Prop) :
 Vq (tNa k mp S S1) Q (as_ S (aBin EAu .lss 3 (.tmp 4) kAuB_6 (kAuB_0 k) (kAuB_0 1)) (.bool false) (as_ S (aBin EAu .gtr 3 (.tmp 7) kAuB_30 (kAuB_0 k) (kAuB_0 64)) (.bool false) (aa (kAuB_27 k S) (.ptr (some (mp,0)),S1) (aq (Q (.tuple (kAuB_10 mp 0),S1)))))):=vq (by kernel_rfl)
noncomputable abbrev kAuB_33 (a:Nat):=AV.int .u64 (.ofNat (2 ^ a - 1))
theorem vcFi (k mp:Nat) (u:Int) (S S1:ASt) (Q:AV×ASt→Prop) :
 Vq (tFi k mp u S S1) Q (al (kAuB_1 3 mp 0) S (kAuB_0 k) (as_ S (aBin EAu .gtr 3 (.tmp 9) kAuB_8 (kAuB_0 k) (kAuB_0 0)) (.bool true) (al (kAuB_1 3 mp 0) S (kAuB_0 k) (as_ S (aBin EAu .shl 24 kAuB_11 (.tmp 6) (kAuB_2 1) (kAuB_0 k)) (.int .u64 u) (as_ S (aBin EAu .sub 24 (.tmp 7) kAuB_11 (.int .u64 u) (kAuB_2 1)) (kAuB_33 k) (aa (Option.map (fun s=>(undefA,s)) (aStore EAu 24 (.ptr (some (mp,1))) (kAuB_33 k) S)) (.tuple [],S1) (aq (Q (.tuple [],S1))))))))):=vq (by kernel_rfl)
noncomputable abbrev kAuB_9 (a b:Nat) (c:CallT) (d:Nat):=M EAu (drawA EAu) (onlyC [a,56,b] c) d
noncomputable abbrev kAuB_16 (a:List Nat):=AV.tuple [AV.agg (bl a),AV.int .i64 (.ofNat 0)]
noncomputable abbrev kAuB_23 (a:Nat) (b:List Nat) (c:ASt):=aStore EAu 54 (AV.ptr (some (a,0))) (AV.agg (bl b)) c
noncomputable abbrev kAuB_42 (a b:Nat):=AV.tuple [AV.int .u64 (.ofNat a),AV.int .i64 (.ofNat b)]
theorem vcLa (q:CallT) (d k n s u mp k1:Nat) (v:Int) (B:List Nat) (S S1 S2 S3 S4:ASt) (Q:AV×ASt→Prop) :
 Vq (tLa q d k n s u mp k1 v B S S1 S2 S3 S4) Q (as_ S (aBin EAu .lss 3 (.tmp 4) kAuB_6 (kAuB_0 k) (kAuB_0 1)) (.bool false) (as_ S (aBin EAu .gtr 3 (.tmp 7) kAuB_30 (kAuB_0 k) (kAuB_0 64)) (.bool false) (aa (kAuB_27 k S) (.ptr (some (mp,0)),S1) (al ((kAuB_9 73 57 q 53).call 73 [.ptr (some (d,0))]) S1 (kAuB_0 n) (as_ S1 (aBin EAu .eql 3 (.tmp 19) kAuB_8 (kAuB_0 n) (kAuB_0 0)) (.bool false) (al ((kAuB_9 73 57 q 51).call 73 [.ptr (some (d,0))]) S1 (kAuB_0 n) (as_ S1 (aBin EAu .geq 3 (.tmp 29) (.tmp 31) (kAuB_0 4) (kAuB_0 n)) (.bool false) (al ((kAuB_9 73 57 q 54).call 56 (kAuB_10 d 4)) S1 (kAuB_16 B) (aa (aAlloc EAu 54 S1) (.ptr (some (k1,0)),S2) (aa (Option.map (fun s=>(undefA,s)) (kAuB_23 k1 B S2)) (.tuple [],S3) (al (kAuB_1 54 k1 0) S3 (.agg (bl B)) (al ((kAuB_9 73 57 q 52).call 57 [.agg (bl B)]) S3 (kAuB_42 s 0) (al (kAuB_1 3 mp 0) S3 (kAuB_0 k) (as_ S3 (aBin EAu .shl 24 kAuB_11 (.tmp 6) (kAuB_2 1) (kAuB_0 k)) (.int .u64 v) (as_ S3 (aBin EAu .sub 24 (.tmp 7) kAuB_11 (.int .u64 v) (kAuB_2 1)) (kAuB_33 k) (as_ S3 (aBin EAu .andNot 24 (.tmp 51) (.tmp 53) (kAuB_2 s) (kAuB_33 k)) (kAuB_2 u) (as_ S3 (aBin EAu .neq 24 (.tmp 54) (.const (.int .u64 0)) (kAuB_2 u) (kAuB_2 0)) (.bool false) (aa (Option.map (fun s=>(undefA,s)) (aStore EAu 24 (.ptr (some (mp,1))) (kAuB_2 s) S3)) (.tuple [],S4) (aq (Q (.tuple (kAuB_10 mp 0),S4))))))))))))))))))))):=vq (by kernel_rfl)
theorem vcLb (q:CallT) (d k n s mp k1:Nat) (B:List Nat) (S S1 S2 S3:ASt) (Q:AV×ASt→Prop) :
 Vq (tLb q d k n s mp k1 B S S1 S2 S3) Q (as_ S (aBin EAu .lss 3 (.tmp 4) kAuB_6 (kAuB_0 k) (kAuB_0 1)) (.bool false) (as_ S (aBin EAu .gtr 3 (.tmp 7) kAuB_30 (kAuB_0 k) (kAuB_0 64)) (.bool false) (aa (kAuB_27 k S) (.ptr (some (mp,0)),S1) (al ((kAuB_9 73 57 q 53).call 73 [.ptr (some (d,0))]) S1 (kAuB_0 n) (as_ S1 (aBin EAu .eql 3 (.tmp 19) kAuB_8 (kAuB_0 n) (kAuB_0 0)) (.bool false) (al ((kAuB_9 73 57 q 51).call 73 [.ptr (some (d,0))]) S1 (kAuB_0 n) (as_ S1 (aBin EAu .geq 3 (.tmp 29) (.tmp 31) (kAuB_0 4) (kAuB_0 n)) (.bool false) (al ((kAuB_9 73 57 q 54).call 56 (kAuB_10 d 4)) S1 (kAuB_16 B) (aa (aAlloc EAu 54 S1) (.ptr (some (k1,0)),S2) (aa (Option.map (fun s=>(undefA,s)) (kAuB_23 k1 B S2)) (.tuple [],S3) (al (kAuB_1 54 k1 0) S3 (.agg (bl B)) (al ((kAuB_9 73 57 q 52).call 57 [.agg (bl B)]) S3 (kAuB_42 s 4) (aq (Q (.tuple [.ptr none,.int .i64 (.ofNat 4)],S3))))))))))))))):=vq (by kernel_rfl)
theorem vcLc (q:CallT) (d k n s u mp k1:Nat) (v:Int) (B:List Nat) (S S1 S2 S3:ASt) (Q:AV×ASt→Prop) :
 Vq (tLc q d k n s u mp k1 v B S S1 S2 S3) Q (as_ S (aBin EAu .lss 3 (.tmp 4) kAuB_6 (kAuB_0 k) (kAuB_0 1)) (.bool false) (as_ S (aBin EAu .gtr 3 (.tmp 7) kAuB_30 (kAuB_0 k) (kAuB_0 64)) (.bool false) (aa (kAuB_27 k S) (.ptr (some (mp,0)),S1) (al ((kAuB_9 73 57 q 53).call 73 [.ptr (some (d,0))]) S1 (kAuB_0 n) (as_ S1 (aBin EAu .eql 3 (.tmp 19) kAuB_8 (kAuB_0 n) (kAuB_0 0)) (.bool false) (al ((kAuB_9 73 57 q 51).call 73 [.ptr (some (d,0))]) S1 (kAuB_0 n) (as_ S1 (aBin EAu .geq 3 (.tmp 29) (.tmp 31) (kAuB_0 4) (kAuB_0 n)) (.bool false) (al ((kAuB_9 73 57 q 54).call 56 (kAuB_10 d 4)) S1 (kAuB_16 B) (aa (aAlloc EAu 54 S1) (.ptr (some (k1,0)),S2) (aa (Option.map (fun s=>(undefA,s)) (kAuB_23 k1 B S2)) (.tuple [],S3) (al (kAuB_1 54 k1 0) S3 (.agg (bl B)) (al ((kAuB_9 73 57 q 52).call 57 [.agg (bl B)]) S3 (kAuB_42 s 0) (al (kAuB_1 3 mp 0) S3 (kAuB_0 k) (as_ S3 (aBin EAu .shl 24 kAuB_11 (.tmp 6) (kAuB_2 1) (kAuB_0 k)) (.int .u64 v) (as_ S3 (aBin EAu .sub 24 (.tmp 7) kAuB_11 (.int .u64 v) (kAuB_2 1)) (kAuB_33 k) (as_ S3 (aBin EAu .andNot 24 (.tmp 51) (.tmp 53) (kAuB_2 s) (kAuB_33 k)) (kAuB_2 u) (as_ S3 (aBin EAu .neq 24 (.tmp 54) (.const (.int .u64 0)) (kAuB_2 u) (kAuB_2 0)) (.bool true) (aq (Q (.tuple [.ptr none,.int .i64 (.ofNat 4)],S3)))))))))))))))))))):=vq (by kernel_rfl)
noncomputable abbrev kAuB_40 (a:CallT) (b:Nat):=M EAu (drawA EAu) (onlyC [73,62,19,40] a) b
theorem vcSv (q:CallT) (d k n s mp:Nat) (B:List Nat) (S S1 S2:ASt) (Q:AV×ASt→Prop) :
 Vq (tSv q d k n s mp B S S1 S2) Q (al (kAuB_1 3 mp 0) S (kAuB_0 k) (as_ S (aBin EAu .gtr 3 (.tmp 9) kAuB_8 (kAuB_0 k) (kAuB_0 0)) (.bool true) (al ((kAuB_40 q 54).call 73 [.ptr (some (d,0))]) S (kAuB_0 n) (as_ S (aBin EAu .eql 3 (.tmp 14) kAuB_8 (kAuB_0 n) (kAuB_0 0)) (.bool false) (al ((kAuB_40 q 52).call 73 [.ptr (some (d,0))]) S (kAuB_0 n) (as_ S (aBin EAu .geq 3 (.tmp 21) (.tmp 23) (kAuB_0 4) (kAuB_0 n)) (.bool false) (al (kAuB_1 24 mp 1) S (kAuB_2 s) (al ((kAuB_40 q 54).call 62 [.int .u64 (.ofNat s)]) S (.agg (bl B)) (aa ((kAuB_40 q 54).call 19 [.ptr (some (d,0)),.int .i64 (.ofNat 4),.agg (bl B)] S) (.int .i64 (.ofNat 0),S1) (aa ((kAuB_40 q 54).call 40 [.ptr (some (d,0))] S1) (.int .i64 (.ofNat 0),S2) (aq (Q (.int .i64 (.ofNat 0),S2))))))))))))):=vq (by kernel_rfl)
noncomputable abbrev kAuB_7 (a b:Nat):=AV.int .i64 (.ofNat (a+b))
theorem vcSy (q:CallT) (d k:Nat) (S:ASt) (Q:AV×ASt→Prop) :
 Vq (tSy q d k S) Q (al ((M EAu (drawA EAu) (onlyC [73] q) 54).call 73 [.ptr (some (d,0))]) S (kAuB_7 9 k) (as_ S (aBin EAu .eql 3 (.tmp 7) kAuB_8 (kAuB_7 9 k) (kAuB_0 0)) (.bool false) (as_ S (aBin EAu .lss 3 (.tmp 3) kAuB_6 (kAuB_0 k) (kAuB_0 1)) (.bool false) (as_ S (aBin EAu .gtr 3 (.tmp 6) kAuB_30 (kAuB_0 k) (kAuB_0 64)) (.bool false) (as_ S (aBin EAu .add 3 (.const (.int .i64 9)) (.tmp 9) (kAuB_0 9) (kAuB_0 k)) (kAuB_7 9 k) (as_ S (aBin EAu .eql 3 (.tmp 11) kAuB_8 (kAuB_7 9 k) (kAuB_0 0)) (.bool false) (al ((M EAu (drawA EAu) (onlyC [73] q) 52).call 73 [.ptr (some (d,0))]) S (kAuB_7 9 k) (as_ S (aBin EAu .lss 3 (.tmp 3) kAuB_6 (kAuB_0 k) (kAuB_0 1)) (.bool false) (as_ S (aBin EAu .gtr 3 (.tmp 6) kAuB_30 (kAuB_0 k) (kAuB_0 64)) (.bool false) (as_ S (aBin EAu .add 3 (.const (.int .i64 9)) (.tmp 9) (kAuB_0 9) (kAuB_0 k)) (kAuB_7 9 k) (as_ S (aBin EAu .neq 3 (.tmp 15) (.tmp 17) (kAuB_7 9 k) (kAuB_7 9 k)) (.bool false) (aq (Q (.int .i64 (.ofNat 0),S)))))))))))))):=vq (by kernel_rfl)
theorem vcLy (q:CallT) (d n u:Nat) (S:ASt) (Q:AV×ASt→Prop) :
 Vq (tLy q d n u S) Q (al ((M EAu (drawA EAu) (onlyC [73] q) 54).call 73 [.ptr (some (d,0))]) S (kAuB_0 n) (as_ S (aBin EAu .eql 3 (.tmp 9) kAuB_8 (kAuB_0 n) (kAuB_0 0)) (.bool false) (al ((M EAu (drawA EAu) (onlyC [73] q) 52).call 73 [.ptr (some (d,0))]) S (kAuB_0 n) (as_ S (aBin EAu .sub 3 (.tmp 25) (.tmp 26) (kAuB_0 n) (kAuB_0 4)) (kAuB_0 u) (as_ S (aBin EAu .gtr 3 (.tmp 23) (.tmp 27) (kAuB_0 5) (kAuB_0 u)) (.bool false) (aq (Q (.int .i64 (.ofNat 0),S)))))))):=vq (by kernel_rfl)
theorem vcGa (sp lp:Nat) (S:ASt) (Q:AV×ASt→Prop) :
 Vq (tGa sp lp S) Q (al (kAuB_1 134 sp 9) S (.ptr (some (lp,0))) (al (kAuB_1 69 lp 5) S (.slice none 0 (.known 0)) (aq (Q (.slice none 0 (.known 0),S))))):=vq (by kernel_rfl)
theorem vcGb (sp lp r n:Nat) (C:Cap) (W P2:AV) (S S1 S2:ASt) (Q:AV×ASt→Prop) :
 Vq (tGb sp lp r n C W P2 S S1 S2) Q (al (kAuB_1 134 sp 9) S (.ptr (some (lp,0))) (al (kAuB_1 69 lp 5) S (.slice (some (r,0)) n C) (aa (bsO0 (xFr [] 8) S) (W,S1) (aa (aBuiltinM EAu .append [69,69] [W,.slice (some (r,0)) n C] S1) (P2,S2) (aq (Q (P2,S2))))))):=vq (by kernel_rfl)
theorem vcGc (lp:Nat) (S:ASt) (Q:AV×ASt→Prop) :
 Vq (tGc lp S) Q (al (kAuB_1 69 lp 5) S (.slice none 0 (.known 0)) (aq (Q (.slice none 0 (.known 0),S)))):=vq (by kernel_rfl)
theorem vcGd (lp r n:Nat) (C:Cap) (W P2:AV) (S S1 S2:ASt) (Q:AV×ASt→Prop) :
 Vq (tGd lp r n C W P2 S S1 S2) Q (al (kAuB_1 69 lp 5) S (.slice (some (r,0)) n C) (aa (bsO1 (xFr [] 8) S) (W,S1) (aa (aBuiltinM EAu .append [69,69] [W,.slice (some (r,0)) n C] S1) (P2,S2) (aq (Q (P2,S2)))))):=vq (by kernel_rfl)
theorem vcMp (sp mp:Nat) (S:ASt) (Q:AV×ASt→Prop) :
 Vq (tMp sp mp S) Q (al (kAuB_1 73 sp 10) S (.ptr (some (mp,0))) (aq (Q (.ptr (some (mp,0)),S)))):=vq (by kernel_rfl)
theorem vcSu (sp k0:Nat) (x:Nat→Nat) (c:Bool) (S S1 S2:ASt) (Q:Exit×AFr×ASt→Prop) :
 Vq (tSu sp k0 x c S S1 S2) (fun r=>Q (rawR [2] r)) (aa (aAlloc EAu 29 S) (.ptr (some (k0,0)),S1) (al (kAuB_1 29 sp 2) S1 (.agg (sL x c)) (aa (Option.map (fun s=>(undefA,s)) (aStore EAu 29 (.ptr (some (k0,0))) (.agg (sL x c)) S1)) (.tuple [],S2) (aq (Q (.ret,xFr [(2,.ptr (some (k0,0)))] 10,S2)))))):=vq (by kernel_rfl)
theorem vcTa (sp k0:Nat) (y:Nat→Nat) (S S1 S2:ASt) (Q:Exit×AFr×ASt→Prop) :
 Vq (tTa sp k0 y S S1 S2) (fun r=>Q (rawR [2] r)) (aa (aAlloc EAu 33 S) (.ptr (some (k0,0)),S1) (al (kAuB_1 33 sp 11) S1 (.agg (rL y)) (aa (Option.map (fun s=>(undefA,s)) (aStore EAu 33 (.ptr (some (k0,0))) (.agg (rL y)) S1)) (.tuple [],S2) (aq (Q (.ret,xFr [(2,.ptr (some (k0,0)))] 10,S2)))))):=vq (by kernel_rfl)
noncomputable abbrev kAuB_21:=Operand.const (Value.int .i64 16)
noncomputable abbrev kAuB_28 (a b c:Nat):List AV:=[.ptr (some (a,0)),.int .i64 (.ofNat b),.int .i64 (.ofNat c)]
theorem vcOa (q:CallT) (d room lp:Nat) (S S1:ASt) (Q:Exit×AFr×ASt→Prop) :
 Vq (tOa q d room lp S S1) (fun r=>Q (rawR [0,1,2,3,11,12] r)) (al ((kAuB_9 140 59 q 57).call 140 (kAuB_28 d 5 4)) S (kAuB_0 0) (as_ S (aBin EAu .lss 3 (.tmp 26) kAuB_6 (kAuB_0 room) (kAuB_0 1)) (.bool false) (as_ S (aBin EAu .gtr 3 (.tmp 29) kAuB_21 (kAuB_0 room) (kAuB_0 16)) (.bool false) (aa (aBox (.agg [.ptr (some (d,0)),.int .i64 (.ofNat 5),.int .i64 (.ofNat 4),.int .i64 (.ofNat room),.int .u64 (.ofNat 0),.slice none 0 (.known 0)]) S) (.ptr (some (lp,0)),S1) (aq (Q (.normal,xFr [(0,.ptr (some (d,0))),(1,.int .i64 (.ofNat 5)),(2,.int .i64 (.ofNat 4)),(3,.int .i64 (.ofNat room)),(11,.ptr (some (lp,0))),(12,.int .u16 (.ofNat 0))] 117,S1))))))):=vq (by kernel_rfl)
theorem vcOb (d room lp h:Nat) (S:ASt) (Q:Exit×AFr×ASt→Prop) :
 Vq (tOb d room lp h S) (fun r=>Q (rawR [0,1,2,3,11,12,42,43] r)) (aq (Q (.normal,xFr [(0,.ptr (some (d,0))),(1,.int .i64 (.ofNat 5)),(2,.int .i64 (.ofNat 4)),(3,.int .i64 (.ofNat room)),(11,.ptr (some (lp,0))),(12,.int .u16 (.ofNat h)),(42,.int .i64 (.ofNat 4)),(43,.int .i64 (.ofNat 0))] 117,S))):=vq (by kernel_rfl)
noncomputable abbrev kAuB_19 (a b c:Nat):=AV.tuple [AV.int .u64 (.ofNat a),AV.int .u16 (.ofNat b),AV.int .i64 (.ofNat c)]
noncomputable abbrev kAuB_38 (a b:Nat):List AV:=[.ptr (some (a,0)),.int .i64 (.ofNat (5+b))]
theorem vcOc (q:CallT) (d room lp h i k1 n g:Nat) (B:List Nat) (S S1 S2:ASt) (Q:Exit×AFr×ASt→Prop) :
 Vq (tOc q d room lp h i k1 n g B S S1 S2) (fun r=>Q (rawR [0,1,2,3,11,12,42,43] r)) (as_ S (aBin EAu .lss 3 (.tmp 43) (.tmp 42) (kAuB_0 i) (kAuB_0 4)) (.bool true) (as_ S (aBin EAu .add 3 (.tmp 48) (.tmp 49) (kAuB_0 5) (kAuB_0 i)) (kAuB_7 5 i) (al ((kAuB_9 140 59 q 53).call 56 (kAuB_38 d i)) S (kAuB_16 B) (aa (aAlloc EAu 54 S) (.ptr (some (k1,0)),S1) (aa (Option.map (fun s=>(undefA,s)) (kAuB_23 k1 B S1)) (.tuple [],S2) (al (kAuB_1 54 k1 0) S2 (.agg (bl B)) (al ((kAuB_9 140 59 q 51).call 59 [.agg (bl B)]) S2 (kAuB_19 n g 4) (as_ S2 (aBin EAu .add 3 (.tmp 43) kAuB_6 (kAuB_0 i) (kAuB_0 1)) (kAuB_7 i 1) (aq (Q (.normal,xFr [(0,.ptr (some (d,0))),(1,.int .i64 (.ofNat 5)),(2,.int .i64 (.ofNat 4)),(3,.int .i64 (.ofNat room)),(11,.ptr (some (lp,0))),(12,.int .u16 (.ofNat h)),(42,.int .i64 (.ofNat 4)),(43,.int .i64 (.ofNat (i+1)))] 117,S2))))))))))):=vq (by kernel_rfl)
theorem vcOd (q:CallT) (d room lp h i k1 n g nu:Nat) (B:List Nat) (S S1 S2:ASt) (Q:Exit×AFr×ASt→Prop) :
 Vq (tOd q d room lp h i k1 n g nu B S S1 S2) (fun r=>Q (rawR [0,1,2,3,11,12,42,43] r)) (as_ S (aBin EAu .lss 3 (.tmp 43) (.tmp 42) (kAuB_0 i) (kAuB_0 4)) (.bool true) (as_ S (aBin EAu .add 3 (.tmp 48) (.tmp 49) (kAuB_0 5) (kAuB_0 i)) (kAuB_7 5 i) (al ((kAuB_9 140 59 q 53).call 56 (kAuB_38 d i)) S (kAuB_16 B) (aa (aAlloc EAu 54 S) (.ptr (some (k1,0)),S1) (aa (Option.map (fun s=>(undefA,s)) (kAuB_23 k1 B S1)) (.tuple [],S2) (al (kAuB_1 54 k1 0) S2 (.agg (bl B)) (al ((kAuB_9 140 59 q 51).call 59 [.agg (bl B)]) S2 (kAuB_19 n g 0) (al (kAuB_1 24 lp 4) S2 (kAuB_2 nu) (as_ S2 (aBin EAu .gtr 24 (.tmp 66) (.tmp 70) (kAuB_2 n) (kAuB_2 nu)) (.bool false) (as_ S2 (aBin EAu .add 3 (.tmp 43) kAuB_6 (kAuB_0 i) (kAuB_0 1)) (kAuB_7 i 1) (aq (Q (.normal,xFr [(0,.ptr (some (d,0))),(1,.int .i64 (.ofNat 5)),(2,.int .i64 (.ofNat 4)),(3,.int .i64 (.ofNat room)),(11,.ptr (some (lp,0))),(12,.int .u16 (.ofNat h)),(42,.int .i64 (.ofNat 4)),(43,.int .i64 (.ofNat (i+1)))] 117,S2))))))))))))):=vq (by kernel_rfl)
theorem vcOe (q:CallT) (d room lp h i k1 n g nu:Nat) (B:List Nat) (S S1 S2:ASt) (Q:Exit×AFr×ASt→Prop) :
 Vq (tOe q d room lp h i k1 n g nu B S S1 S2) (fun r=>Q (rawR [0,1,2,3,11,12,42,43] r)) (as_ S (aBin EAu .lss 3 (.tmp 43) (.tmp 42) (kAuB_0 i) (kAuB_0 4)) (.bool true) (as_ S (aBin EAu .add 3 (.tmp 48) (.tmp 49) (kAuB_0 5) (kAuB_0 i)) (kAuB_7 5 i) (al ((kAuB_9 140 59 q 53).call 56 (kAuB_38 d i)) S (kAuB_16 B) (aa (aAlloc EAu 54 S) (.ptr (some (k1,0)),S1) (aa (Option.map (fun s=>(undefA,s)) (kAuB_23 k1 B S1)) (.tuple [],S2) (al (kAuB_1 54 k1 0) S2 (.agg (bl B)) (al ((kAuB_9 140 59 q 51).call 59 [.agg (bl B)]) S2 (kAuB_19 n g 0) (al (kAuB_1 24 lp 4) S2 (kAuB_2 nu) (as_ S2 (aBin EAu .gtr 24 (.tmp 66) (.tmp 70) (kAuB_2 n) (kAuB_2 nu)) (.bool true) (as_ S2 (aBin EAu .rem 24 (.tmp 74) (.tmp 76) (kAuB_2 n) (kAuB_2 4)) (.int .u64 (.ofNat (n % 4))) (al (aConvert EAu 24 3 (.int .u64 (.ofNat (n % 4)))) S2 (.int .i64 (.ofNat (n % 4))) (as_ S2 (aBin EAu .eql 3 (.tmp 78) (.tmp 79) (.int .i64 (.ofNat (n % 4))) (kAuB_0 i)) (.bool false) (as_ S2 (aBin EAu .add 3 (.tmp 43) kAuB_6 (kAuB_0 i) (kAuB_0 1)) (kAuB_7 i 1) (aq (Q (.normal,xFr [(0,.ptr (some (d,0))),(1,.int .i64 (.ofNat 5)),(2,.int .i64 (.ofNat 4)),(3,.int .i64 (.ofNat room)),(11,.ptr (some (lp,0))),(12,.int .u16 (.ofNat h)),(42,.int .i64 (.ofNat 4)),(43,.int .i64 (.ofNat (i+1)))] 117,S2)))))))))))))))):=vq (by kernel_rfl)
theorem vcOf (q:CallT) (d room lp h i k1 n g nu:Nat) (B:List Nat) (S S1 S2 S3:ASt) (Q:Exit×AFr×ASt→Prop) :
 Vq (tOf q d room lp h i k1 n g nu B S S1 S2 S3) (fun r=>Q (rawR [0,1,2,3,11,12,42,43] r)) (as_ S (aBin EAu .lss 3 (.tmp 43) (.tmp 42) (kAuB_0 i) (kAuB_0 4)) (.bool true) (as_ S (aBin EAu .add 3 (.tmp 48) (.tmp 49) (kAuB_0 5) (kAuB_0 i)) (kAuB_7 5 i) (al ((kAuB_9 140 59 q 53).call 56 (kAuB_38 d i)) S (kAuB_16 B) (aa (aAlloc EAu 54 S) (.ptr (some (k1,0)),S1) (aa (Option.map (fun s=>(undefA,s)) (kAuB_23 k1 B S1)) (.tuple [],S2) (al (kAuB_1 54 k1 0) S2 (.agg (bl B)) (al ((kAuB_9 140 59 q 51).call 59 [.agg (bl B)]) S2 (kAuB_19 n g 0) (al (kAuB_1 24 lp 4) S2 (kAuB_2 nu) (as_ S2 (aBin EAu .gtr 24 (.tmp 66) (.tmp 70) (kAuB_2 n) (kAuB_2 nu)) (.bool true) (as_ S2 (aBin EAu .rem 24 (.tmp 74) (.tmp 76) (kAuB_2 n) (kAuB_2 4)) (.int .u64 (.ofNat (n % 4))) (al (aConvert EAu 24 3 (.int .u64 (.ofNat (n % 4)))) S2 (.int .i64 (.ofNat (n % 4))) (as_ S2 (aBin EAu .eql 3 (.tmp 78) (.tmp 79) (.int .i64 (.ofNat (n % 4))) (kAuB_0 i)) (.bool true) (aa (Option.map (fun s=>(undefA,s)) (aStore EAu 24 (.ptr (some (lp,4))) (kAuB_2 n) S2)) (.tuple [],S3) (as_ S3 (aBin EAu .add 3 (.tmp 43) kAuB_6 (kAuB_0 i) (kAuB_0 1)) (kAuB_7 i 1) (aq (Q (.normal,xFr [(0,.ptr (some (d,0))),(1,.int .i64 (.ofNat 5)),(2,.int .i64 (.ofNat 4)),(3,.int .i64 (.ofNat room)),(11,.ptr (some (lp,0))),(12,.int .u16 (.ofNat g)),(42,.int .i64 (.ofNat 4)),(43,.int .i64 (.ofNat (i+1)))] 117,S3))))))))))))))))):=vq (by kernel_rfl)
theorem vcOg (d room lp h i:Nat) (S:ASt) (Q:Exit×AFr×ASt→Prop) :
 Vq (tOg d room lp h i S) (fun r=>Q (rawR [3,11,12] r)) (as_ S (aBin EAu .lss 3 (.tmp 43) (.tmp 42) (kAuB_0 i) (kAuB_0 4)) (.bool false) (aq (Q (.exit 0,xFr [(3,.int .i64 (.ofNat room)),(11,.ptr (some (lp,0))),(12,.int .u16 (.ofNat h))] 117,S)))):=vq (by kernel_rfl)
theorem vcOh (room lp h:Nat) (S:ASt) (Q:Exit×AFr×ASt→Prop) :
 Vq (tOh room lp h S) (fun r=>Q (rawR [3,11,12,88] r)) (aq (Q (.normal,xFr [(3,.int .i64 (.ofNat room)),(11,.ptr (some (lp,0))),(12,.int .u16 (.ofNat h)),(88,.int .i64 (.ofNat 0))] 117,S))):=vq (by kernel_rfl)
noncomputable abbrev kAuB_24 (a:Nat):=AV.int .u16 (.ofNat a)
noncomputable abbrev kAuB_32:=Operand.const (Value.int .u16 1)
noncomputable abbrev kAuB_34 (a b:Nat):=AV.int .u16 (.ofNat (a / 2 ^ b % 2))
noncomputable abbrev kAuB_36 (a b:Nat):=AV.int .u16 (.ofNat (a / 2 ^ b))
theorem vcOi (room lp h x:Nat) (S:ASt) (Q:Exit×AFr×ASt→Prop) :
 Vq (tOi room lp h x S) (fun r=>Q (rawR [3,11,12,88] r)) (as_ S (aBin EAu .lss 3 (.tmp 88) kAuB_21 (kAuB_0 x) (kAuB_0 16)) (.bool true) (as_ S (aBin EAu .shr 34 (.tmp 91) (.tmp 92) (kAuB_24 h) (kAuB_0 x)) (kAuB_36 h x) (as_ S (aBin EAu .and 34 (.tmp 93) kAuB_32 (kAuB_36 h x) (kAuB_24 1)) (kAuB_34 h x) (as_ S (aBin EAu .eql 34 (.tmp 94) kAuB_32 (kAuB_34 h x) (kAuB_24 1)) (.bool false) (as_ S (aBin EAu .add 3 (.tmp 88) kAuB_6 (kAuB_0 x) (kAuB_0 1)) (kAuB_7 x 1) (aq (Q (.normal,xFr [(3,.int .i64 (.ofNat room)),(11,.ptr (some (lp,0))),(12,.int .u16 (.ofNat h)),(88,.int .i64 (.ofNat (x+1)))] 117,S)))))))):=vq (by kernel_rfl)
noncomputable abbrev kAuB_35 (a:AV):=aBuiltinM EAu Builtin.len [69] [a]
theorem vcOj (room lp h x n:Nat) (P:AV) (S:ASt) (Q:Exit×AFr×ASt→Prop) :
 Vq (tOj room lp h x n P S) (fun r=>Q (rawR [3,11,12,88] r)) (as_ S (aBin EAu .lss 3 (.tmp 88) kAuB_21 (kAuB_0 x) (kAuB_0 16)) (.bool true) (as_ S (aBin EAu .shr 34 (.tmp 91) (.tmp 92) (kAuB_24 h) (kAuB_0 x)) (kAuB_36 h x) (as_ S (aBin EAu .and 34 (.tmp 93) kAuB_32 (kAuB_36 h x) (kAuB_24 1)) (kAuB_34 h x) (as_ S (aBin EAu .eql 34 (.tmp 94) kAuB_32 (kAuB_34 h x) (kAuB_24 1)) (.bool true) (al (kAuB_1 69 lp 5) S P (al (kAuB_35 P) S (kAuB_0 n) (as_ S (aBin EAu .lss 3 (.tmp 101) (.tmp 102) (kAuB_0 n) (kAuB_0 room)) (.bool false) (as_ S (aBin EAu .add 3 (.tmp 88) kAuB_6 (kAuB_0 x) (kAuB_0 1)) (kAuB_7 x 1) (aq (Q (.normal,xFr [(3,.int .i64 (.ofNat room)),(11,.ptr (some (lp,0))),(12,.int .u16 (.ofNat h)),(88,.int .i64 (.ofNat (x+1)))] 117,S))))))))))):=vq (by kernel_rfl)
theorem vcOk (room lp h x n:Nat) (P W P2:AV) (S S1 S2 S3:ASt) (Q:Exit×AFr×ASt→Prop) :
 Vq (tOk room lp h x n P W P2 S S1 S2 S3) (fun r=>Q (rawR [3,11,12,88] r)) (as_ S (aBin EAu .lss 3 (.tmp 88) kAuB_21 (kAuB_0 x) (kAuB_0 16)) (.bool true) (as_ S (aBin EAu .shr 34 (.tmp 91) (.tmp 92) (kAuB_24 h) (kAuB_0 x)) (kAuB_36 h x) (as_ S (aBin EAu .and 34 (.tmp 93) kAuB_32 (kAuB_36 h x) (kAuB_24 1)) (kAuB_34 h x) (as_ S (aBin EAu .eql 34 (.tmp 94) kAuB_32 (kAuB_34 h x) (kAuB_24 1)) (.bool true) (al (kAuB_1 69 lp 5) S P (al (kAuB_35 P) S (kAuB_0 n) (as_ S (aBin EAu .lss 3 (.tmp 101) (.tmp 102) (kAuB_0 n) (kAuB_0 room)) (.bool true) (al (kAuB_1 69 lp 5) S P (aa (bsO2 (xFr [(110,.int .i64 (.ofNat x))] 117) S) (W,S1) (aa (aBuiltinM EAu .append [69,69] [P,W] S1) (P2,S2) (aa (Option.map (fun s=>(undefA,s)) (aStore EAu 69 (.ptr (some (lp,5))) P2 S2)) (.tuple [],S3) (as_ S3 (aBin EAu .add 3 (.tmp 88) kAuB_6 (kAuB_0 x) (kAuB_0 1)) (kAuB_7 x 1) (aq (Q (.normal,xFr [(3,.int .i64 (.ofNat room)),(11,.ptr (some (lp,0))),(12,.int .u16 (.ofNat h)),(88,.int .i64 (.ofNat (x+1)))] 117,S3))))))))))))))):=vq (by kernel_rfl)
theorem vcOl (room lp h x:Nat) (S:ASt) (Q:Exit×AFr×ASt→Prop) :
 Vq (tOl room lp h x S) (fun r=>Q (rawR [11] r)) (as_ S (aBin EAu .lss 3 (.tmp 88) kAuB_21 (kAuB_0 x) (kAuB_0 16)) (.bool false) (aq (Q (.exit 2,xFr [(11,.ptr (some (lp,0)))] 117,S)))):=vq (by kernel_rfl)
theorem vcOm (lp:Nat) (S:ASt) (Q:Exit×AFr×ASt→Prop) :
 Vq (tOm lp S) (fun r=>Q (rawR [8,9] r)) (aq (Q (.ret,xFr [(8,.ptr (some (lp,0))),(9,.int .i64 (.ofNat 0))] 117,S))):=vq (by kernel_rfl)
noncomputable abbrev kAuB_20 (a:CallT) (b:Nat):=M EAu (drawA EAu) (kAuB_5 a) b
theorem vcAa (q:CallT) (d k room sp lp t:Nat) (x y:Nat→Nat) (c:Bool) (S S1 S2 S3 S4 S5:ASt) (Q:Exit×AFr×ASt→Prop) :
 Vq (tAa q d k room sp lp t x y c S S1 S2 S3 S4 S5) (fun r=>Q (rawR [0,1,9] r)) (al ((kAuB_20 q 56).call 78 (kAuB_10 d k)) S (kAuB_0 0) (as_ S (aBin EAu .lss 3 (.tmp 21) kAuB_6 (kAuB_0 room) (kAuB_0 1)) (.bool false) (as_ S (aBin EAu .gtr 3 (.tmp 24) kAuB_21 (kAuB_0 room) (kAuB_0 16)) (.bool false) (aa (aBox (.agg [.ptr (some (d,0)),.int .i64 (.ofNat k),.int .i64 (.ofNat 0),.bool false,.int .u64 (.ofNat 0),.int .u64 (.ofNat 0),.int .u64 (.ofNat 0),.int .u64 (.ofNat 0),.int .u64 (.ofNat 0),.ptr none,.ptr none,.int .u64 (.ofNat 0),.int .u64 (.ofNat 0),.int .u64 (.ofNat 0),.int .u64 (.ofNat 0),.int .u64 (.ofNat 0),.int .u64 (.ofNat 0),.int .u64 (.ofNat 0),.int .u64 (.ofNat 0),.int .u64 (.ofNat 0),.int .u64 (.ofNat 0),.int .u64 (.ofNat 0),.int .u64 (.ofNat 0),.int .u64 (.ofNat 0),.int .u64 (.ofNat 0),.int .u64 (.ofNat 0),.int .u64 (.ofNat 0),.int .u64 (.ofNat 0),.int .i64 (.ofNat 0),.int .i64 (.ofNat 0),.int .i64 (.ofNat 0)]) S) (.ptr (some (sp,0)),S1) (al ((kAuB_20 q 52).call 54 [.ptr (some (d,0))]) S1 (.tuple [.agg (sL x c),.int .i64 (.ofNat 0)]) (aa (Option.map (fun s=>(undefA,s)) (aStore EAu 29 (.ptr (some (sp,2))) (.agg (sL x c)) S1)) (.tuple [],S2) (al ((kAuB_20 q 51).call 55 (kAuB_10 d 2)) S2 (.tuple [.agg (rL y),.int .u64 (.ofNat t),.int .i64 (.ofNat 0)]) (aa (Option.map (fun s=>(undefA,s)) (aStore EAu 33 (.ptr (some (sp,11))) (.agg (rL y)) S2)) (.tuple [],S3) (aa ((kAuB_20 q 51).call 79 [.ptr (some (d,0)),.int .i64 (.ofNat 5),.int .i64 (.ofNat 4),.int .i64 (.ofNat room)] S3) (.tuple (kAuB_10 lp 0),S4) (aa (Option.map (fun s=>(undefA,s)) (aStore EAu 134 (.ptr (some (sp,9))) (.ptr (some (lp,0))) S4)) (.tuple [],S5) (aq (Q (.normal,xFr [(0,.ptr (some (d,0))),(1,.int .i64 (.ofNat k)),(9,.ptr (some (sp,0)))] 134,S5))))))))))))):=vq (by kernel_rfl)
theorem vcAb (q:CallT) (d k sp mp:Nat) (S S1 S2:ASt) (Q:Exit×AFr×ASt→Prop) :
 Vq (tAb q d k sp mp S S1 S2) (fun r=>Q (rawR [0,9] r)) (aa ((kAuB_20 q 58).call 80 (kAuB_28 d 4 k) S) (.tuple (kAuB_10 mp 0),S1) (aa (Option.map (fun s=>(undefA,s)) (aStore EAu 73 (.ptr (some (sp,10))) (.ptr (some (mp,0))) S1)) (.tuple [],S2) (aq (Q (.normal,xFr [(0,.ptr (some (d,0))),(9,.ptr (some (sp,0)))] 134,S2))))):=vq (by kernel_rfl)
theorem vcAc (q:CallT) (d k sp mp:Nat) (S S1 S2 S3 S4 S5:ASt) (Q:Exit×AFr×ASt→Prop) :
 Vq (tAc q d k sp mp S S1 S2 S3 S4 S5) (fun r=>Q (rawR [0,9] r)) (aa ((kAuB_20 q 58).call 80 (kAuB_28 d 4 k) S) (.tuple [.ptr none,.int .i64 (.ofNat 4)],S1) (aa (Option.map (fun s=>(undefA,s)) (aStore EAu 73 (.ptr (some (sp,10))) (.ptr none) S1)) (.tuple [],S2) (aa ((kAuB_20 q 51).call 81 [.int .i64 (.ofNat k)] S2) (.tuple (kAuB_10 mp 0),S3) (aa (Option.map (fun s=>(undefA,s)) (aStore EAu 73 (.ptr (some (sp,10))) (.ptr (some (mp,0))) S3)) (.tuple [],S4) (al (kAuB_1 73 sp 10) S4 (.ptr (some (mp,0))) (aa ((kAuB_20 q 51).call 82 [.ptr (some (mp,0))] S4) (.tuple [],S5) (aq (Q (.normal,xFr [(0,.ptr (some (d,0))),(9,.ptr (some (sp,0)))] 134,S5))))))))):=vq (by kernel_rfl)
theorem vcAd (d sp:Nat) (c:Bool) (S:ASt) (Q:Exit×AFr×ASt→Prop) :
 Vq (tAd d sp c S) (fun r=>Q (rawR [0,9,98] r)) (al (kAuB_1 4 sp 3) S (.bool c) (aq (Q (.normal,xFr [(0,.ptr (some (d,0))),(9,.ptr (some (sp,0))),(98,.bool c)] 134,S)))):=vq (by kernel_rfl)
theorem vcAe (q:CallT) (d sp lp n:Nat) (P:AV) (S S1:ASt) (Q:Exit×AFr×ASt→Prop) :
 Vq (tAe q d sp lp n P S S1) (fun r=>Q (rawR [0,9,103,104,105] r)) (al (kAuB_1 134 sp 9) S (.ptr (some (lp,0))) (aa ((kAuB_20 q 59).call 83 [.ptr (some (lp,0))] S) (P,S1) (al (kAuB_35 P) S1 (kAuB_0 n) (aq (Q (.normal,xFr [(0,.ptr (some (d,0))),(9,.ptr (some (sp,0))),(103,P),(104,.int .i64 (.ofNat n)),(105,.int .i64 (.ofNat 0))] 134,S1)))))):=vq (by kernel_rfl)
noncomputable abbrev kAuB_26 (a:Nat):=AV.int .i64 (.ofNat (a*4))
noncomputable abbrev kAuB_37:=Operand.const (Value.int .i64 4)
noncomputable abbrev kAuB_39 (a b:Nat):=xFr [(119,AV.int .i64 (.ofNat (a*4+b)))] 134
theorem vcAf (q:CallT) (d sp mp n i r x e0 e1 e2 e3:Nat) (P W0 W1 W2 W3:AV) (S S1 S2 S3 S4 S5 S6 S7 S8:ASt) (Q:Exit×AFr×ASt→Prop) :
 Vq (tAf q d sp mp n i r x e0 e1 e2 e3 P W0 W1 W2 W3 S S1 S2 S3 S4 S5 S6 S7 S8) (fun r=>Q (rawR [0,9,103,104,105] r)) (as_ S (aBin EAu .lss 3 (.tmp 105) (.tmp 104) (kAuB_0 i) (kAuB_0 n)) (.bool true) (as_ S (aIndexAddr EAu 69 P (kAuB_0 i)) (.ptr (some (r,i*1))) (al (aLoad EAu 3 (.ptr (some (r,i*1)))) S (kAuB_0 x) (al (kAuB_1 73 sp 10) S (.ptr (some (mp,0))) (as_ S (aBin EAu .mul 3 (.tmp 116) kAuB_37 (kAuB_0 x) (kAuB_0 4)) (kAuB_26 x) (as_ S (aBin EAu .add 3 (.tmp 117) (.tmp 118) (kAuB_26 x) (kAuB_0 0)) (.int .i64 (.ofNat (x*4+0))) (aa (bsO3 q (kAuB_39 x 0) S) (W0,S1) (aa ((kAuB_20 q 46).call 35 [.ptr (some (mp,0)),W0] S1) (.int .i64 (.ofNat e0),S2) (al (kAuB_1 73 sp 10) S2 (.ptr (some (mp,0))) (as_ S2 (aBin EAu .mul 3 (.tmp 116) kAuB_37 (kAuB_0 x) (kAuB_0 4)) (kAuB_26 x) (as_ S2 (aBin EAu .add 3 (.tmp 117) (.tmp 118) (kAuB_26 x) (kAuB_0 1)) (.int .i64 (.ofNat (x*4+1))) (aa (bsO3 q (kAuB_39 x 1) S2) (W1,S3) (aa ((kAuB_20 q 46).call 35 [.ptr (some (mp,0)),W1] S3) (.int .i64 (.ofNat e1),S4) (al (kAuB_1 73 sp 10) S4 (.ptr (some (mp,0))) (as_ S4 (aBin EAu .mul 3 (.tmp 116) kAuB_37 (kAuB_0 x) (kAuB_0 4)) (kAuB_26 x) (as_ S4 (aBin EAu .add 3 (.tmp 117) (.tmp 118) (kAuB_26 x) (kAuB_0 2)) (.int .i64 (.ofNat (x*4+2))) (aa (bsO3 q (kAuB_39 x 2) S4) (W2,S5) (aa ((kAuB_20 q 46).call 35 [.ptr (some (mp,0)),W2] S5) (.int .i64 (.ofNat e2),S6) (al (kAuB_1 73 sp 10) S6 (.ptr (some (mp,0))) (as_ S6 (aBin EAu .mul 3 (.tmp 116) kAuB_37 (kAuB_0 x) (kAuB_0 4)) (kAuB_26 x) (as_ S6 (aBin EAu .add 3 (.tmp 117) (.tmp 118) (kAuB_26 x) (kAuB_0 3)) (.int .i64 (.ofNat (x*4+3))) (aa (bsO3 q (kAuB_39 x 3) S6) (W3,S7) (aa ((kAuB_20 q 46).call 35 [.ptr (some (mp,0)),W3] S7) (.int .i64 (.ofNat e3),S8) (as_ S8 (aBin EAu .add 3 (.tmp 105) kAuB_6 (kAuB_0 i) (kAuB_0 1)) (kAuB_7 i 1) (aq (Q (.normal,xFr [(0,.ptr (some (d,0))),(9,.ptr (some (sp,0))),(103,P),(104,.int .i64 (.ofNat n)),(105,.int .i64 (.ofNat (i+1)))] 134,S8))))))))))))))))))))))))))):=vq (by kernel_rfl)
theorem vcAg (d sp n i:Nat) (P:AV) (S:ASt) (Q:Exit×AFr×ASt→Prop) :
 Vq (tAg d sp n i P S) (fun r=>Q (rawR [0,9] r)) (as_ S (aBin EAu .lss 3 (.tmp 105) (.tmp 104) (kAuB_0 i) (kAuB_0 n)) (.bool false) (aq (Q (.exit 1,xFr [(0,.ptr (some (d,0))),(9,.ptr (some (sp,0)))] 134,S)))):=vq (by kernel_rfl)
theorem vcAh (q:CallT) (d sp mp:Nat) (S S1:ASt) (Q:Exit×AFr×ASt→Prop) :
 Vq (tAh q d sp mp S S1) (fun r=>Q (rawR [9] r)) (al (kAuB_1 73 sp 10) S (.ptr (some (mp,0))) (aa ((kAuB_20 q 58).call 84 [.ptr (some (mp,0)),.ptr (some (d,0)),.int .i64 (.ofNat 4)] S) (.int .i64 (.ofNat 0),S1) (aq (Q (.normal,xFr [(9,.ptr (some (sp,0)))] 134,S1))))):=vq (by kernel_rfl)
theorem vcAi (sp:Nat) (S:ASt) (Q:Exit×AFr×ASt→Prop) :
 Vq (tAi sp S) (fun r=>Q (rawR [6,7] r)) (aq (Q (.ret,xFr [(6,.ptr (some (sp,0))),(7,.int .i64 (.ofNat 0))] 134,S))):=vq (by kernel_rfl)
noncomputable abbrev kAuB_3 (a:CallT) (b:Nat):=M EAu (drawA EAu) (onlyC [11,9,14,16,25,26,27,28,30,29,31,32] a) b
theorem vcWa (q:CallT) (b s:Int) (c:Bool) (x:Nat→Nat) (Z:Nat→Int) (t:Nat) (mk:Bool) (se nu ho:Nat) (room:Int) (k0:Nat) (S S1:ASt) (Q:Exit×AFr×ASt→Prop) :
 Vq (tWa q b s c x Z t mk se nu ho room k0 S S1) (fun r=>Q (rawR [4] r)) (aa (aBox (.agg (mG b s c x Z t mk se nu ho)) S) (.ptr (some (k0,0)),S1) (al (kAuB_1 36 k0 0) S1 (.agg (mG b s c x Z t mk se nu ho)) (al ((kAuB_3 q 56).call 11 [.agg (mG b s c x Z t mk se nu ho)]) S1 (.bool false) (al ((kAuB_3 q 54).call 9 []) S1 (.bool true) (aq (Q (.ret,xFr [(4,.bool true)] 120,S1))))))):=vq (by kernel_rfl)
theorem vcWb (q:CallT) (b s:Int) (c:Bool) (x:Nat→Nat) (Z:Nat→Int) (t:Nat) (mk:Bool) (se nu ho:Nat) (room:Int) (k0:Nat) (S S1:ASt) (Q:Exit×AFr×ASt→Prop) :
 Vq (tWb q b s c x Z t mk se nu ho room k0 S S1) (fun r=>Q (rawR [4] r)) (aa (aBox (.agg (mG b s c x Z t mk se nu ho)) S) (.ptr (some (k0,0)),S1) (al (kAuB_1 36 k0 0) S1 (.agg (mG b s c x Z t mk se nu ho)) (al ((kAuB_3 q 56).call 11 [.agg (mG b s c x Z t mk se nu ho)]) S1 (.bool true) (as_ S1 (aBin EAu .lss 3 (.tmp 17) kAuB_6 (.int .i64 room) (kAuB_0 1)) (.bool true) (al ((kAuB_3 q 54).call 9 []) S1 (.bool true) (aq (Q (.ret,xFr [(4,.bool true)] 120,S1)))))))):=vq (by kernel_rfl)
theorem vcWc (q:CallT) (b s:Int) (c:Bool) (x:Nat→Nat) (Z:Nat→Int) (t:Nat) (mk:Bool) (se nu ho:Nat) (room:Int) (k0:Nat) (S S1:ASt) (Q:Exit×AFr×ASt→Prop) :
 Vq (tWc q b s c x Z t mk se nu ho room k0 S S1) (fun r=>Q (rawR [4] r)) (aa (aBox (.agg (mG b s c x Z t mk se nu ho)) S) (.ptr (some (k0,0)),S1) (al (kAuB_1 36 k0 0) S1 (.agg (mG b s c x Z t mk se nu ho)) (al ((kAuB_3 q 56).call 11 [.agg (mG b s c x Z t mk se nu ho)]) S1 (.bool true) (as_ S1 (aBin EAu .lss 3 (.tmp 17) kAuB_6 (.int .i64 room) (kAuB_0 1)) (.bool false) (as_ S1 (aBin EAu .gtr 3 (.tmp 21) kAuB_21 (.int .i64 room) (kAuB_0 16)) (.bool true) (al ((kAuB_3 q 54).call 9 []) S1 (.bool true) (aq (Q (.ret,xFr [(4,.bool true)] 120,S1))))))))):=vq (by kernel_rfl)
theorem vcWd (q:CallT) (k t se nu ho:Nat) (x y:Nat→Nat) (c mk:Bool) (room k0 d sp mp:Nat) (P P2:AV) (S S1 S2 S3 S4 S5 S6:ASt) (Q:Exit×AFr×ASt→Prop) :
 Vq (tWd q k t se nu ho x y c mk room k0 d sp mp P P2 S S1 S2 S3 S4 S5 S6) (fun r=>Q (rawR [2,8,9] r)) (aa (aBox (.agg (mL k x c y t mk se nu ho)) S) (.ptr (some (k0,0)),S1) (al (kAuB_1 36 k0 0) S1 (.agg (mL k x c y t mk se nu ho)) (al ((kAuB_3 q 56).call 11 [.agg (mL k x c y t mk se nu ho)]) S1 (.bool true) (as_ S1 (aBin EAu .lss 3 (.tmp 17) kAuB_6 (kAuB_0 room) (kAuB_0 1)) (.bool false) (as_ S1 (aBin EAu .gtr 3 (.tmp 21) kAuB_21 (kAuB_0 room) (kAuB_0 16)) (.bool false) (al (kAuB_1 3 k0 0) S1 (kAuB_0 k) (aa ((kAuB_3 q 56).call 14 [.int .i64 (.ofNat k)] S1) (.ptr (some (d,0)),S2) (al (kAuB_1 36 k0 0) S2 (.agg (mL k x c y t mk se nu ho)) (aa ((kAuB_3 q 54).call 16 [.ptr (some (d,0)),.agg (mL k x c y t mk se nu ho)] S2) (.int .i64 (.ofNat 0),S3) (al (kAuB_1 3 k0 0) S3 (kAuB_0 k) (aa ((kAuB_3 q 54).call 25 (kAuB_28 d k room) S3) (.tuple (kAuB_10 sp 0),S4) (al ((kAuB_3 q 52).call 26 [.ptr (some (sp,0))]) (kAuB_29 S4 20) (.agg (sL x c)) (al (kAuB_1 29 k0 1) (kAuB_29 S4 20) (.agg (sL x c)) (as_ (kAuB_29 S4 20) (aBin EAu .neq 29 (.tmp 52) (.tmp 54) (.agg (sL x c)) (.agg (sL x c))) (.bool false) (al ((kAuB_3 q 52).call 27 [.ptr (some (sp,0))]) (kAuB_29 S4 20) (.agg (rL y)) (al (kAuB_1 33 k0 8) (kAuB_29 S4 20) (.agg (rL y)) (as_ (kAuB_29 S4 20) (aBin EAu .neq 33 (.tmp 59) (.tmp 61) (.agg (rL y)) (.agg (rL y))) (.bool false) (ah (holdsO [(fstO (aLoad EAu 29 (.ptr (some (k0,1))) (kAuB_29 S4 20)),.agg (sL x c)),(fstO (aLoad EAu 33 (.ptr (some (k0,8))) (kAuB_29 S4 20)),.agg (rL y))]) (al (kAuB_1 34 k0 31) (kAuB_29 S4 20) (kAuB_24 ho) (aa ((kAuB_3 q 52).call 28 [.int .u16 (.ofNat ho),.int .i64 (.ofNat room)] (kAuB_29 S4 20)) (P,S5) (aa ((kAuB_3 q 50).call 30 [.ptr (some (sp,0))] S5) (P2,S6) (al ((kAuB_3 q 50).call 29 [P2,P]) S6 (.bool true) (al ((kAuB_3 q 51).call 31 [.ptr (some (sp,0))]) S6 (.ptr (some (mp,0))) (aq (Q (.normal,xFr [(2,.ptr (some (k0,0))),(8,P),(9,.ptr (some (mp,0)))] 120,S6)))))))))))))))))))))))))):=vq (by kernel_rfl)
theorem vcWe (k0 mp:Nat) (P:AV) (S:ASt) (Q:Exit×AFr×ASt→Prop) :
 Vq (tWe k0 mp P S) (fun r=>Q (rawR [2,8,9,10] r)) (aq (Q (.normal,xFr [(2,.ptr (some (k0,0))),(8,P),(9,.ptr (some (mp,0))),(10,.int .i64 (.ofNat 0))] 120,S))):=vq (by kernel_rfl)
theorem vcWf (k0 mp i k:Nat) (P:AV) (S:ASt) (Q:Exit×AFr×ASt→Prop) :
 Vq (tWf k0 mp i k P S) (fun r=>Q (rawR [2,8,9,10] r)) (al (kAuB_1 3 k0 0) S (kAuB_0 k) (as_ S (aBin EAu .lss 3 (.tmp 75) (.tmp 77) (kAuB_0 i) (kAuB_0 k)) (.bool true) (aq (Q (.normal,xFr [(2,.ptr (some (k0,0))),(8,P),(9,.ptr (some (mp,0))),(10,.int .i64 (.ofNat i))] 120,S))))):=vq (by kernel_rfl)
theorem vcWg (k0 mp i k:Nat) (P:AV) (S:ASt) (Q:Exit×AFr×ASt→Prop) :
 Vq (tWg k0 mp i k P S) (fun r=>Q (rawR [] r)) (al (kAuB_1 3 k0 0) S (kAuB_0 k) (as_ S (aBin EAu .lss 3 (.tmp 75) (.tmp 77) (kAuB_0 i) (kAuB_0 k)) (.bool false) (aq (Q (.exit 0,xFr [] 120,S))))):=vq (by kernel_rfl)
theorem vcWh (k0 mp i:Nat) (P:AV) (S:ASt) (Q:Exit×AFr×ASt→Prop) :
 Vq (tWh k0 mp i P S) (fun r=>Q (rawR [2,8,9,10,11] r)) (al (kAuB_1 4 k0 28) S (.bool false) (aq (Q (.normal,xFr [(2,.ptr (some (k0,0))),(8,P),(9,.ptr (some (mp,0))),(10,.int .i64 (.ofNat i)),(11,.bool true)] 120,S)))):=vq (by kernel_rfl)
theorem vcWi (k0 mp i se:Nat) (g:Bool) (P:AV) (S:ASt) (Q:Exit×AFr×ASt→Prop) :
 Vq (tWi k0 mp i se g P S) (fun r=>Q (rawR [2,8,9,10,11] r)) (al (kAuB_1 4 k0 28) S (.bool true) (al (kAuB_1 24 k0 29) S (kAuB_2 se) (al (aConvert EAu 3 75 (kAuB_0 i)) S (kAuB_2 i) (as_ S (aBin EAu .shr 24 (.tmp 86) (.tmp 88) (kAuB_2 se) (kAuB_2 i)) (kAuB_25 se i) (as_ S (aBin EAu .rem 24 (.tmp 89) (.const (.int .u64 2)) (kAuB_25 se i) (kAuB_2 2)) (kAuB_22 se i) (as_ S (aBin EAu .eql 24 (.tmp 90) kAuB_11 (kAuB_22 se i) (kAuB_2 1)) (.bool g) (aq (Q (.normal,xFr [(2,.ptr (some (k0,0))),(8,P),(9,.ptr (some (mp,0))),(10,.int .i64 (.ofNat i)),(11,.bool g)] 120,S))))))))):=vq (by kernel_rfl)
theorem vcWj (k0 mp i:Nat) (g:Bool) (P:AV) (S:ASt) (Q:Exit×AFr×ASt→Prop) :
 Vq (tWj k0 mp i g P S) (fun r=>Q (rawR [2,8,9,10,11,12] r)) (aq (Q (.normal,xFr [(2,.ptr (some (k0,0))),(8,P),(9,.ptr (some (mp,0))),(10,.int .i64 (.ofNat i)),(11,.bool g),(12,.int .i64 (.ofNat 0))] 120,S))):=vq (by kernel_rfl)
theorem vcWk (k0 mp i j n:Nat) (P:AV) (S:ASt) (Q:Exit×AFr×ASt→Prop) :
 Vq (tWk k0 mp i j n P S) (fun r=>Q (rawR [2,8,9,10,11,12] r)) (al (kAuB_35 P) S (kAuB_0 n) (as_ S (aBin EAu .lss 3 (.tmp 93) (.tmp 95) (kAuB_0 j) (kAuB_0 n)) (.bool true) (as_ S (aBin EAu .add 3 (.tmp 97) kAuB_6 (kAuB_0 j) (kAuB_0 1)) (kAuB_7 j 1) (aq (Q (.normal,xFr [(2,.ptr (some (k0,0))),(8,P),(9,.ptr (some (mp,0))),(10,.int .i64 (.ofNat i)),(11,.bool true),(12,.int .i64 (.ofNat (j+1)))] 120,S)))))):=vq (by kernel_rfl)
theorem vcWl (k0 mp i j n:Nat) (P:AV) (S:ASt) (Q:Exit×AFr×ASt→Prop) :
 Vq (tWl k0 mp i j n P S) (fun r=>Q (rawR [2,8,9,10,11,12] r)) (al (kAuB_35 P) S (kAuB_0 n) (as_ S (aBin EAu .lss 3 (.tmp 93) (.tmp 95) (kAuB_0 j) (kAuB_0 n)) (.bool true) (al (kAuB_1 4 k0 2) S (.bool false) (as_ S (aBin EAu .add 3 (.tmp 97) kAuB_6 (kAuB_0 j) (kAuB_0 1)) (kAuB_7 j 1) (aq (Q (.normal,xFr [(2,.ptr (some (k0,0))),(8,P),(9,.ptr (some (mp,0))),(10,.int .i64 (.ofNat i)),(11,.bool false),(12,.int .i64 (.ofNat (j+1)))] 120,S))))))):=vq (by kernel_rfl)
theorem vcWm (k0 mp i j n r e:Nat) (g:Bool) (P:AV) (S:ASt) (Q:Exit×AFr×ASt→Prop) :
 Vq (tWm k0 mp i j n r e g P S) (fun r=>Q (rawR [2,8,9,10,11,12] r)) (al (kAuB_35 P) S (kAuB_0 n) (as_ S (aBin EAu .lss 3 (.tmp 93) (.tmp 95) (kAuB_0 j) (kAuB_0 n)) (.bool true) (al (kAuB_1 4 k0 2) S (.bool true) (as_ S (aIndexAddr EAu 69 P (kAuB_0 j)) (.ptr (some (r,j*1))) (al (aLoad EAu 3 (.ptr (some (r,j*1)))) S (kAuB_0 e) (as_ S (aBin EAu .quo 3 (.tmp 109) kAuB_37 (kAuB_0 i) (kAuB_0 4)) (.int .i64 (.ofNat (i / 4))) (as_ S (aBin EAu .eql 3 (.tmp 108) (.tmp 110) (kAuB_0 e) (.int .i64 (.ofNat (i / 4)))) (.bool g) (as_ S (aBin EAu .add 3 (.tmp 97) kAuB_6 (kAuB_0 j) (kAuB_0 1)) (kAuB_7 j 1) (aq (Q (.normal,xFr [(2,.ptr (some (k0,0))),(8,P),(9,.ptr (some (mp,0))),(10,.int .i64 (.ofNat i)),(11,.bool g),(12,.int .i64 (.ofNat (j+1)))] 120,S))))))))))):=vq (by kernel_rfl)
theorem vcWn (k0 mp i j n:Nat) (g:Bool) (P:AV) (S:ASt) (Q:Exit×AFr×ASt→Prop) :
 Vq (tWn k0 mp i j n g P S) (fun r=>Q (rawR [2,8,9,10,11] r)) (al (kAuB_35 P) S (kAuB_0 n) (as_ S (aBin EAu .lss 3 (.tmp 93) (.tmp 95) (kAuB_0 j) (kAuB_0 n)) (.bool false) (aq (Q (.exit 2,xFr [(2,.ptr (some (k0,0))),(8,P),(9,.ptr (some (mp,0))),(10,.int .i64 (.ofNat i)),(11,.bool g)] 120,S))))):=vq (by kernel_rfl)
theorem vcWo (q:CallT) (k0 mp i:Nat) (g:Bool) (P:AV) (S:ASt) (Q:Exit×AFr×ASt→Prop) :
 Vq (tWo q k0 mp i g P S) (fun r=>Q (rawR [2,8,9,10] r)) (al ((kAuB_3 q 58).call 32 (kAuB_10 mp i)) S (.bool g) (as_ S (aBin EAu .neq 4 (.tmp 116) (.tmp 117) (.bool g) (.bool g)) (.bool false) (aq (Q (.normal,xFr [(2,.ptr (some (k0,0))),(8,P),(9,.ptr (some (mp,0))),(10,.int .i64 (.ofNat i))] 120,S))))):=vq (by kernel_rfl)
theorem vcWp (k0 mp i:Nat) (P:AV) (S:ASt) (Q:Exit×AFr×ASt→Prop) :
 Vq (tWp k0 mp i P S) (fun r=>Q (rawR [2,8,9,10] r)) (as_ S (aBin EAu .add 3 (.tmp 79) kAuB_6 (kAuB_0 i) (kAuB_0 1)) (kAuB_7 i 1) (aq (Q (.normal,xFr [(2,.ptr (some (k0,0))),(8,P),(9,.ptr (some (mp,0))),(10,.int .i64 (.ofNat (i+1)))] 120,S)))):=vq (by kernel_rfl)
theorem vcWq (q:CallT) (S:ASt) (Q:Exit×AFr×ASt→Prop) :
 Vq (tWq q S) (fun r=>Q (rawR [4] r)) (al ((kAuB_3 q 58).call 9 []) S (.bool true) (aq (Q (.ret,xFr [(4,.bool true)] 120,S)))):=vq (by kernel_rfl)
end Go.Proofs.YtiafochainjglaaGreatDoor.drp.atu
end

section
open Go Go.Ax Go.Proofs
namespace Go.Proofs.YtiafochainjglaaGreatDoor.drp.atu
set_option linter.unusedVariables false
open oo cd cd2 cd3 cd4 cd5 cd9 pu atc
theorem EAuok:Env.Ok Tryz.prog EAu:=envEx_ok (xs:=[]) ⟨⟨Tryz.func6,Tryz.call6⟩,⟨Tryz.func25,Tryz.call25⟩,⟨Tryz.func26,Tryz.call26⟩,⟨Tryz.func27,Tryz.call27⟩,⟨Tryz.func30,Tryz.call30⟩,⟨Tryz.func31,Tryz.call31⟩,⟨Tryz.func32,Tryz.call32⟩,⟨Tryz.func35,Tryz.call35⟩,⟨Tryz.func78,Tryz.call78⟩,⟨Tryz.func79,Tryz.call79⟩,⟨Tryz.func80,Tryz.call80⟩,⟨Tryz.func81,Tryz.call81⟩,⟨Tryz.func82,Tryz.call82⟩,⟨Tryz.func83,Tryz.call83⟩,⟨Tryz.func84,Tryz.call84⟩,⟨Tryz.func90,Tryz.call90⟩,⟨Tryz.func120,Tryz.call120⟩,⟨Tryz.func140,Tryz.call140⟩,⟨Tryz.func141,Tryz.call141⟩,⟨Tryz.func142,Tryz.call142⟩,⟨Tryz.func143,Tryz.call143⟩,trivial⟩ trivial (by kernel_rfl)
def mapO (k s:Nat):AO:=.cells [.int .i64 (.ofNat k),.int .u64 (.ofNat s)] true
section
variable {S:ASt} {k s j mp r:Nat}
theorem mld0 (h:S.h.get mp=some (mapO k s)):aLoad EAu 3 (.ptr (some (mp,0))) S=some (.int .i64 (.ofNat k),S):=load_at (by kernel_rfl) h rfl
theorem mld1 (h:S.h.get mp=some (mapO k s)):aLoad EAu 24 (.ptr (some (mp,1))) S=some (.int .u64 (.ofNat s),S):=load_at (by kernel_rfl) h rfl
theorem mst1 (h:S.h.get mp=some (mapO k s)) (v:Nat):Option.map (fun s=>(undefA,s)) (aStore EAu 24 (.ptr (some (mp,1))) (.int .u64 (.ofNat v)) S)=some (.tuple [],S.put mp (mapO k v)):=okS_of (store_at (j:=1) (by kernel_rfl) h (by show 1<2;decide) rfl)
theorem div_lt (hs:s<18446744073709551616):s / 2 ^ j<18446744073709551616:=Nat.lt_of_le_of_lt (Nat.div_le_self _ _) hs
theorem has_at (h:S.h.get mp=some (mapO k s)) (hs:s<18446744073709551616) (hk:k≤64) (j:Nat):Call1 Tryz.prog 32 [.ptr (some (mp,0)),.int .i64 (.ofNat j)] S (.bool (decide (j<k) && has s j),S):=by
 by_cases hj:j<k
 ·rw[decide_eq_true hj,Bool.true_and]
  exact Call1.of_tm EAuok noSum_ok (Eq.mp (vcHa k s j mp (has s j) S (fun r=>r=(.bool (has s j),S))) ⟨geT (Nat.zero_le _),mld0 h,lT hj,mld1 h,opShr (show j≤64 by omega),opAnd1 (div_lt hs),opEql,rfl⟩)
 ·rw[decide_eq_false hj,Bool.false_and]
  exact Call1.of_tm EAuok noSum_ok (Eq.mp (vcHb k j mp S (fun r=>r=(.bool false,S))) ⟨geT (Nat.zero_le _),mld0 h,lF (by omega),rfl⟩)
structure Mkd (S S':ASt) (mp k s:Nat):Prop where
 at_:S'.h.get mp=some (mapO k s)
 old:∀i,i≠mp→S'.h.get i=S.h.get i
 tidy:Tidy S'
 next:S.next≤S'.next
theorem mark_at (ht:Tidy S) (h:S.h.get mp=some (mapO k s)) (hr:S.h.get r=some (.cells [.int .i64 (.ofNat j)] true)) (hs:s<18446744073709551616) (h1:1≤k) (hk:k≤64) :
  ∃e S',Call1 Tryz.prog 35 [.ptr (some (mp,0)),.slice (some (r,0)) 1 (.known 1)] S (.int .i64 (.ofNat e),S')∧Mkd S S' mp k (mrk k s j):=by
 have hl:=ht.lt h
 have hld:aLoad EAu 3 (.ptr (some (r,0))) S=some (.int .i64 (.ofNat j),S):=load_at (by kernel_rfl) hr rfl
 by_cases hj:j<k
 ·have h2j:2 ^ j<18446744073709551616:=Nat.pow_lt_pow_right (a:=2) (m:=j) (n:=64) (by decide) (by omega)
  by_cases hb:s / 2 ^ j % 2=1
  ·have e:mrk k s j=s:=if_neg (fun q=>by have:has s j=true:=decide_eq_true hb;rw[this] at q;cases q.2)
   rw[e]
   exact⟨0,S,Call1.of_tm EAuok noSum_ok (Eq.mp (vcMb k s j mp r S (fun r=>r=(.int .i64 (.ofNat 0),S))) ⟨mld0 h,gT (by omega),hld,lF (Nat.zero_le _),mld0 h,geF hj,geT (Nat.zero_le _),mld0 h,lT hj,mld1 h,opShr (show j≤64 by omega),opAnd1 (div_lt hs),eT hb,rfl⟩),h,fun i _=>rfl,ht,Nat.le_refl _⟩
  ·have e:mrk k s j=Nat.xor s (2 ^ j):=if_pos ⟨hj,decide_eq_false hb⟩
   rw[e]
   obtain⟨Y,eY⟩:∃Y,Y=ASt.mk S.h (S.next+10):=⟨_,rfl⟩
   have hY:Y.h.get mp=some (mapO k s):=by rw[eY];exact h
   subst eY
   refine⟨1,(ASt.mk S.h (S.next+10)).put mp (mapO k (Nat.xor s (2 ^ j))),Call1.of_tm EAuok noSum_ok (Eq.mp (vcMa k s j mp r S ((ASt.mk S.h (S.next+10)).put mp (mapO k (Nat.xor s (2 ^ j)))) (fun r=>r=(.int .i64 (.ofNat 1),(ASt.mk S.h (S.next+10)).put mp (mapO k (Nat.xor s (2 ^ j)))))) ⟨mld0 h,gT (by omega),hld,lF (Nat.zero_le _),mld0 h,geF hj,geT (Nat.zero_le _),mld0 h,lT hj,mld1 h,opShr (show j≤64 by omega),opAnd1 (div_lt hs),eF hb,?_,opShl1 (by omega),opXor hs h2j,?_,trivial,rfl⟩),put_at,fun i hi=>?_,?_,?_⟩
   ·exact mld1 hY
   ·exact mst1 hY _
   ·rw[put_ne hi]
   ·exact (ht.mk (Nat.le_add_right _ _)).put (by show mp<S.next+10;omega)
   ·rw[put_next];exact Nat.le_add_right _ _
 ·have e:mrk k s j=s:=if_neg (fun q=>hj q.1)
  rw[e]
  exact⟨0,S,Call1.of_tm EAuok noSum_ok (Eq.mp (vcMc k j mp r S (fun r=>r=(.int .i64 (.ofNat 0),S))) ⟨mld0 h,gT (by omega),hld,lF (Nat.zero_le _),mld0 h,geT (by omega),rfl⟩),h,fun i _=>rfl,ht,Nat.le_refl _⟩
theorem mnew_at (h1:1≤k) (hk:k≤64):Call1 Tryz.prog 81 [.int .i64 (.ofNat k)] S (.tuple [.ptr (some (S.next,0)),.int .i64 (.ofNat 0)],S.add (mapO k 0)) :=
 Call1.of_tm EAuok noSum_ok (Eq.mp (vcNa k S.next S (S.add (mapO k 0)) (fun r=>r=(.tuple [.ptr (some (S.next,0)),.int .i64 (.ofNat 0)],S.add (mapO k 0)))) ⟨lF h1,gF hk,rfl,rfl⟩)
theorem mfill_at (h:S.h.get mp=some (mapO k s)) (h1:1≤k) (hk:k≤64):Call1 Tryz.prog 82 [.ptr (some (mp,0))] S (.tuple [],S.put mp (mapO k (2 ^ k - 1))):=by
 obtain⟨u,q1,q2⟩:=opAll (E:=EAu) (Y:=S) (t:=24) (x:=.const (.int .u64 1)) (y:=.tmp 6) hk
 exact Call1.of_tm EAuok noSum_ok (Eq.mp (vcFi k mp u S (S.put mp (mapO k (2 ^ k - 1))) (fun r=>r=(.tuple [],S.put mp (mapO k (2 ^ k - 1))))) ⟨mld0 h,gT (by omega),mld0 h,q1,q2 _ _ _,mst1 h _,rfl⟩)
end
section
variable {q:CallT} {H:List Nat→Nat→Nat} {S:ASt} {d k:Nat} {las:List (List Nat)} {es:List dsk.En}
theorem load_yes (hS:Sums q H) (hD:Dsk S d las es) (hn:las.length=9+k) (h1:1≤k) (h2:k≤64) (hs:mX H (nb las es 4)<18446744073709551616) (hm:mkM H (nb las es) k=true) :
  ∃S',Call1 Tryz.prog 80 [.ptr (some (d,0)),.int .i64 (.ofNat 4),.int .i64 (.ofNat k)] S (.tuple [.ptr (some (S.next,0)),.int .i64 (.ofNat 0)],S')∧Ov S S' [(S.next,mapO k (mX H (nb las es 4)))]:=by
 unfold mkM at hm
 rw[Bool.and_eq_true,Bool.not_eq_true'] at hm
 have hfit:=(fits hs h2).1 hm.2
 have hok:=orC_ok (diskC_ok (d:=d) (las:=las) (es:=es)) (blkC_ok (mo_at hS))
 obtain⟨S1,e1,o1⟩:=(Ov.nil hD.tidy).add (mapO k 0)
 obtain⟨S2,e2,o2⟩:=o1.add (.cells (bl []) true)
 obtain⟨S3,e3,o3⟩:=o2.stA (E:=EAu) (t:=54) (i:=1) (k:=S1.next) (o:=0) (z:=256) (vs:=bl (nb las es 4)) [] (bl []) [] (by kernel_rfl) (by kernel_rfl) rfl (bl_len _) (bl_len _)
 obtain⟨S4,e4,o4⟩:=o3.st1 (E:=EAu) (t:=24) (i:=0) (k:=S.next) (o:=1) (v:=.int .u64 (.ofNat (mX H (nb las es 4)))) [.int .i64 (.ofNat k),.int .u64 (.ofNat 0)] (by kernel_rfl)
 obtain⟨v,q1,q2⟩:=opAll (E:=EAu) (Y:=S3) (t:=24) (x:=.const (.int .u64 1)) (y:=.tmp 6) h2
 obtain⟨u,q3,q4⟩:=opBey (E:=EAu) (Y:=S3) (t:=24) (x:=.tmp 51) (y:=.tmp 53) hs h2
 have hb:=diskC_b (hD.over o1)
 rw[hn] at hb
 have h57:outMo H (nb las es 4)=.tuple [.int .u64 (.ofNat (mX H (nb las es 4))),.int .i64 (.ofNat 0)]:=by unfold outMo;rw[hm.1];rfl
 have c57:=blkC_at (k:=57) (out:=outMo H) (hD.bk 4) S3
 rw[h57] at c57
 refine⟨S4,Call1.of_tm EAuok (onlyC_ok hok) (Eq.mp (vcLa _ d k (9+k) (mX H (nb las es 4)) u S.next S1.next v (nb las es 4) S S1 S2 S3 S4 (fun r=>r=(.tuple [.ptr (some (S.next,0)),.int .i64 (.ofNat 0)],S4))) ⟨lF h1,gF h2,by rw[e1];rfl,ca (orC_l hb),eF (by omega),ca (orC_l hb),geF (by omega),ca (orC_l (diskC_r (hD.over o1) (by omega))),o1.al e2,e3,o3.ldA (i:=1) (z:=256) (cs:=bl (nb las es 4)) (by kernel_rfl) (by kernel_rfl) takeL_bl,ca (orC_r (diskC_no (by decide) (by decide)) c57),o3.ld1 (i:=0) (cs:=[.int .i64 (.ofNat k),.int .u64 (.ofNat 0)]),q1,q2 _ _ _,q3,nF (q4.2 hfit),e4,rfl⟩),o4.only0 (by kernel_rfl)⟩
theorem load_no (hS:Sums q H) (hD:Dsk S d las es) (hn:las.length=9+k) (h1:1≤k) (h2:k≤64) (hs:mX H (nb las es 4)<18446744073709551616) (hm:mkM H (nb las es) k=false) :
  ∃S',Call1 Tryz.prog 80 [.ptr (some (d,0)),.int .i64 (.ofNat 4),.int .i64 (.ofNat k)] S (.tuple [.ptr none,.int .i64 (.ofNat 4)],S')∧Ov S S' []:=by
 have hok:=orC_ok (diskC_ok (d:=d) (las:=las) (es:=es)) (blkC_ok (mo_at hS))
 obtain⟨S1,e1,o1⟩:=(Ov.nil hD.tidy).add (mapO k 0)
 obtain⟨S2,e2,o2⟩:=o1.add (.cells (bl []) true)
 obtain⟨S3,e3,o3⟩:=o2.stA (E:=EAu) (t:=54) (i:=1) (k:=S1.next) (o:=0) (z:=256) (vs:=bl (nb las es 4)) [] (bl []) [] (by kernel_rfl) (by kernel_rfl) rfl (bl_len _) (bl_len _)
 have hb:=diskC_b (hD.over o1)
 rw[hn] at hb
 have c57:=blkC_at (k:=57) (out:=outMo H) (hD.bk 4) S3
 have oF:Ov S S3 []:=⟨o3.next,fun i p hi=>by simp at hi,fun i j p r hi=>by simp at hi,o3.old,o3.tidy⟩
 cases hi:iM H (nb las es 4) with
 | false =>
  have h57:outMo H (nb las es 4)=.tuple [.int .u64 (.ofNat (mX H (nb las es 4))),.int .i64 (.ofNat 4)]:=by unfold outMo;rw[hi];rfl
  rw[h57] at c57
  exact⟨S3,Call1.of_tm EAuok (onlyC_ok hok) (Eq.mp (vcLb _ d k (9+k) (mX H (nb las es 4)) S.next S1.next (nb las es 4) S S1 S2 S3 (fun r=>r=(.tuple [.ptr none,.int .i64 (.ofNat 4)],S3))) ⟨lF h1,gF h2,by rw[e1];rfl,ca (orC_l hb),eF (by omega),ca (orC_l hb),geF (by omega),ca (orC_l (diskC_r (hD.over o1) (by omega))),o1.al e2,e3,o3.ldA (i:=1) (z:=256) (cs:=bl (nb las es 4)) (by kernel_rfl) (by kernel_rfl) takeL_bl,ca (orC_r (diskC_no (by decide) (by decide)) c57),rfl⟩),oF⟩
 | true =>
  unfold mkM at hm
  rw[hi,Bool.true_and,Bool.not_eq_false'] at hm
  have hnf:¬mX H (nb las es 4)<2 ^ k:=fun q=>by rw[(fits hs h2).2 q] at hm;cases hm
  obtain⟨v,q1,q2⟩:=opAll (E:=EAu) (Y:=S3) (t:=24) (x:=.const (.int .u64 1)) (y:=.tmp 6) h2
  obtain⟨u,q3,q4⟩:=opBey (E:=EAu) (Y:=S3) (t:=24) (x:=.tmp 51) (y:=.tmp 53) hs h2
  have h57:outMo H (nb las es 4)=.tuple [.int .u64 (.ofNat (mX H (nb las es 4))),.int .i64 (.ofNat 0)]:=by unfold outMo;rw[hi];rfl
  rw[h57] at c57
  exact⟨S3,Call1.of_tm EAuok (onlyC_ok hok) (Eq.mp (vcLc _ d k (9+k) (mX H (nb las es 4)) u S.next S1.next v (nb las es 4) S S1 S2 S3 (fun r=>r=(.tuple [.ptr none,.int .i64 (.ofNat 4)],S3))) ⟨lF h1,gF h2,by rw[e1];rfl,ca (orC_l hb),eF (by omega),ca (orC_l hb),geF (by omega),ca (orC_l (diskC_r (hD.over o1) (by omega))),o1.al e2,e3,o3.ldA (i:=1) (z:=256) (cs:=bl (nb las es 4)) (by kernel_rfl) (by kernel_rfl) takeL_bl,ca (orC_r (diskC_no (by decide) (by decide)) c57),o3.ld1 (i:=0) (cs:=[.int .i64 (.ofNat k),.int .u64 (.ofNat 0)]),q1,q2 _ _ _,q3,nT (fun q=>hnf (q4.1 q)),rfl⟩),oF⟩
end
section
variable {q:CallT} {H:List Nat→Nat→Nat} {base d l m n c k s mp:Nat} {S0 S:ASt} {las:List (List Nat)} {es:List dsk.En}
theorem save_at (hS:Sums q H) (hv:Dv base S0 S d l m n c las es) (hc:c<100000) (hn:9≤n) (h:S.h.get mp=some (mapO k s)) (hs:s<18446744073709551616) (h1:1≤k) :
  ∃S' las',Call1 Tryz.prog 84 [.ptr (some (mp,0)),.ptr (some (d,0)),.int .i64 (.ofNat 4)] S (.int .i64 (.ofNat 0),S')∧Dv base S0 S' d l m n (c+1) las' []∧S.next≤S'.next∧(∀k,k<S.next→k≠l→k≠m→S'.h.get k=S.h.get k)∧∀j,j<n→nb las' [] j=if j=4 then blV (sealN H (mapL s)) else nb las es j:=by
 have hB:byL (sealN H (mapL s)):=seal_by hS.lt (mapL_by s)
 obtain⟨S1,es1,w1,hv1,n1,k1,b1⟩:=Dv.writeV (i:=4) (b:=sealN H (mapL s)) hv (by omega) (by omega) hB
 obtain⟨S2,las2,ck,w2,hv2,n2,k2,b2,_,_⟩:=Dv.flushV hv1 (by omega) (by omega)
 have hb:=blocks_p (hv.dsk (by omega))
 rw[hv.len] at hb
 have hok:=orC_ok (oneC_ok hb) (orC_ok (pureC_ok (fun S=>atMB hS hs S)) (orC_ok (oneC_ok w1) (oneC_ok w2)))
 refine⟨S2,las2,Call1.of_tm EAuok (onlyC_ok hok) (Eq.mp (vcSv _ d k n s mp (sealN H (mapL s)) S S1 S2 (fun r=>r=(.int .i64 (.ofNat 0),S2))) ⟨mld0 h,gT (by omega),ca (orC_l oneC_at),eF (by omega),ca (orC_l oneC_at),geF (by omega),mld1 h,ca (orC_r (oneC_no (by decide)) (orC_l (pureC_at ..))),ca (orC_r (oneC_no (by decide)) (orC_r (pureC_no (by decide)) (orC_l oneC_at))),ca (orC_r (oneC_no (by decide)) (orC_r (pureC_no (by decide)) (orC_r (oneC_no (by decide)) oneC_at))),rfl⟩),hv2,by omega,fun i hi hl hm=>by rw[k2 i (by omega) hl hm,k1 i hi hm],fun j hj=>?_⟩
 rw[b2 j hj,b1 j]
end
end Go.Proofs.YtiafochainjglaaGreatDoor.drp.atu
end

section
open Go Go.Ax Go.Proofs
namespace Go.Proofs.YtiafochainjglaaGreatDoor.drp.atu
set_option linter.unusedVariables false
open oo cd cd2 cd3 cd4 cd5 cd9 pu atc
def logO (d room nu:Nat) (P:AV):AO:=.cells [.ptr (some (d,0)),.int .i64 (.ofNat 5),.int .i64 (.ofNat 4),.int .i64 (.ofNat room),.int .u64 (.ofNat nu),P] true
def stL (d k:Nat) (x:Nat→Nat) (c:Bool) (L M:AV) (y:Nat→Nat):List AV:=.ptr (some (d,0))::.int .i64 (.ofNat k)::(sL x c++(L::M::(rL y++[.int .i64 (.ofNat 0)])))
def stO (d k:Nat) (x:Nat→Nat) (c:Bool) (L M:AV) (y:Nat→Nat):AO:=.cells (stL d k x c L M y) true
theorem apU:appT EAu 69 69=some (1,8):=by kernel_rfl
section
variable {S:ASt} {d k room nu lp sp mp:Nat} {P L M:AV} {x y:Nat→Nat} {c:Bool}
theorem lld4 (h:S.h.get lp=some (logO d room nu P)):aLoad EAu 24 (.ptr (some (lp,4))) S=some (.int .u64 (.ofNat nu),S):=load_at (by kernel_rfl) h rfl
theorem lld5 (h:S.h.get lp=some (logO d room nu P)):aLoad EAu 69 (.ptr (some (lp,5))) S=some (P,S):=load_at (by kernel_rfl) h rfl
theorem lst4 (h:S.h.get lp=some (logO d room nu P)) (v:Nat):Option.map (fun s=>(undefA,s)) (aStore EAu 24 (.ptr (some (lp,4))) (.int .u64 (.ofNat v)) S)=some (.tuple [],S.put lp (logO d room v P)):=okS_of (store_at (j:=4) (by kernel_rfl) h (by show 4<6;decide) rfl)
theorem lst5 (h:S.h.get lp=some (logO d room nu P)) {P2:AV} (hc:P2.isCell=true):Option.map (fun s=>(undefA,s)) (aStore EAu 69 (.ptr (some (lp,5))) P2 S)=some (.tuple [],S.put lp (logO d room nu P2)):=okS_of (store_at (j:=5) (by kernel_rfl) h (by show 5<6;decide) hc)
theorem sld_l (h:S.h.get sp=some (stO d k x c L M y)):aLoad EAu 134 (.ptr (some (sp,9))) S=some (L,S):=load_at (by kernel_rfl) h rfl
theorem sld_m (h:S.h.get sp=some (stO d k x c L M y)):aLoad EAu 73 (.ptr (some (sp,10))) S=some (M,S):=load_at (by kernel_rfl) h rfl
theorem sld_c (h:S.h.get sp=some (stO d k x c L M y)):aLoad EAu 4 (.ptr (some (sp,3))) S=some (.bool c,S):=load_at (by kernel_rfl) h rfl
theorem sld_s (h:S.h.get sp=some (stO d k x c L M y)):aLoad EAu 29 (.ptr (some (sp,2))) S=some (.agg (sL x c),S):=load_agg (z:=7) (by kernel_rfl) h (by kernel_rfl)
theorem sld_t (h:S.h.get sp=some (stO d k x c L M y)):aLoad EAu 33 (.ptr (some (sp,11))) S=some (.agg (rL y),S):=load_agg (z:=19) (by kernel_rfl) h (by kernel_rfl)
end
theorem rowI_ne {L:List Nat} {d room nu:Nat} {P:AV}:AO.cells (rowI L) true≠logO d room nu P:=fun h=>by
 unfold logO at h
 injection h with h
 cases L with
 | nil=>cases h
 | cons a L =>
  have:=congrArg (fun l:List AV=>l.head?) h
  cases this
theorem HotP.cell {base:Nat} {X:ASt} {P:AV} {L:List Nat} (h:HotP base X P L):P.isCell=true:=by
 rcases h with⟨rfl,_⟩ | ⟨r,_,rfl,_,_⟩<;>rfl
theorem HotP.put {base lp d room nu:Nat} {X:ASt} {P P0:AV} {L:List Nat} {a:AO} (h:HotP base X P L) (hl:X.h.get lp=some (logO d room nu P0)):HotP base (X.put lp a) P L:=by
 rcases h with h | ⟨r,h0,h1,h2,h3⟩
 ·exact .inl h
 ·exact .inr ⟨r,h0,h1,h2,by rw[put_ne (ne_get h3 hl rowI_ne)];exact h3⟩
theorem HotP.refs {base:Nat} {S X:ASt} {P:AV} {L:List Nat} (h:HotP base X P L) (hb:S.next≤base):refsD (Go.Ax.Good S) P:=by
 rcases h with⟨rfl,_⟩ | ⟨r,_,rfl,h2,_⟩
 ·trivial
 ·exact .inl (Nat.le_trans hb h2)
theorem growG {E:Env} (hE:appT E 69 69=some (1,8)) {base:Nat} {X:ASt} {P:AV} {L:List Nat} (hot:HotP base X P L) (ht:Tidy X) (hb:base≤X.next) (e:Nat) (hl:L.length<1000) :
  ∃P' X',aBuiltinM E .append [69,69] [P,.slice (some (X.next,0)) 1 (.known 1)] (X.add (.cells [.int .i64 (.ofNat e)] true))=some (P',X')∧HotP base X' P' (L++[e])∧Tidy X'∧X.next≤X'.next∧∀k,k<X.next→(k<base∨∃d room nu P0,X.h.get k=some (logO d room nu P0))→X'.h.get k=X.h.get k:=by
 obtain⟨S1,e1⟩:∃Y,Y=X.add (.cells [.int .i64 (.ofNat e)] true):=⟨_,rfl⟩
 have n1:S1.next=X.next+1:=by rw[e1];rfl
 have t1:Tidy S1:=by rw[e1];exact ht.add
 have g1:S1.h.get X.next=some (.cells [.int .i64 (.ofNat e)] true):=by rw[e1];exact add_at
 have o1:∀k,k<X.next→S1.h.get k=X.h.get k:=fun k hk=>by rw[e1,add_ne (by omega)]
 have hf:aFirst S1 1 1 (.slice (some (X.next,0)) 1 (.known 1))=some [.int .i64 (.ofNat e)]:=first_at g1 (by kernel_rfl)
 rw[←e1]
 rcases hot with⟨rfl,rfl⟩ | ⟨r,h0,rfl,hr,hg⟩
 ·refine⟨_,_,append_nil_at hE rfl hf (by decide) (by decide) (by decide),.inr ⟨S1.next,Nat.zero_lt_succ _,rfl,by omega,add_at⟩,t1.add,?_,fun k hk _=>?_⟩
  ·show X.next≤S1.next+1
   omega
  ·show (S1.add _).h.get k=_
   rw[add_ne (by omega),o1 k (by omega)]
 ·have hrX:=ht.lt hg
  refine⟨_,_,append_grow_at (l:=L.length) hE rfl hf (by rw[o1 r hrX];exact hg) (by rw[rowI_len,Nat.mul_one]) (by decide) (by decide) (by omega) (by omega),.inr ⟨S1.next,by rw[List.length_append];exact Nat.add_pos_left h0 _,by rw[List.length_append];rfl,by omega,?_⟩,?_,?_,fun k hk hq=>?_⟩
  ·show ((S1.put r .dead).add _).h.get S1.next=_
   rw[rowI_app]
   exact add_at (S:=S1.put r .dead)
  ·exact (t1.put (by omega)).add
  ·show X.next≤S1.next+1
   omega
  ·have hkr:k≠r:=by
    rcases hq with hq | ⟨d,room,nu,P0,hq⟩
    ·omega
    ·exact fun q=>ne_get hg hq rowI_ne q.symm
   show ((S1.put r .dead).add _).h.get k=_
   rw[add_ne (by rw[put_next];omega),put_ne hkr,o1 k hk]
section
variable {S:ASt} {d k room nu lp sp mp:Nat} {P M:AV} {x y:Nat→Nat} {c:Bool} {L:List Nat} {base:Nat}
theorem cloned (ht:Tidy S) {r:Nat} (h0:0<L.length) (hl:L.length<1000) (hg:S.h.get r=some (.cells (rowI L) true)) :
  aBuiltinM EAu .append [69,69] [.slice (some (S.next,0)) 0 (.known 0),.slice (some (r,0)) L.length (.rest 1)] (S.add (.cells [] true))=some (.slice (some (S.next+1,0)) L.length (.rest 1),(S.add (.cells [] true)).add (.cells (rowI L) true)):=by
 have hr:=ht.lt hg
 have hf:aFirst (S.add (.cells [] true)) 1 L.length (.slice (some (r,0)) L.length (.rest 1))=some (rowI L):=first_at (by rw[add_ne (by omega)];exact hg) (by have:=takeL_all (X:=rowI L);rw[rowI_len] at this;rw[Nat.mul_one];exact this)
 exact append_zero_at (k:=S.next) (o:=0) apU rfl hf add_at h0 (by omega) (by omega)
theorem hot_at (ht:Tidy S) (hs:S.h.get sp=some (stO d k x c (.ptr (some (lp,0))) M y)) (hl:S.h.get lp=some (logO d room nu P)) (hP:HotP base S P L) (hn:L.length<1000) :
  ∃P2 S',Call1 Tryz.prog 30 [.ptr (some (sp,0))] S (P2,S')∧HotP S.next S' P2 L∧Tidy S'∧S.next≤S'.next∧∀k,k<S.next→S'.h.get k=S.h.get k:=by
 rcases hP with⟨rfl,rfl⟩ | ⟨r,h0,rfl,h2,h3⟩
 ·exact⟨_,S,Call1.of_tm EAuok noSum_ok (Eq.mp (vcGa sp lp S (fun r=>r=(.slice none 0 (.known 0),S))) ⟨sld_l hs,lld5 hl,rfl⟩),.inl ⟨rfl,rfl⟩,ht,Nat.le_refl _,fun _ _=>rfl⟩
 ·obtain⟨S2,e2⟩:∃Y,Y=(S.add (.cells [] true)).add (.cells (rowI L) true):=⟨_,rfl⟩
  refine⟨_,S2,Call1.of_tm EAuok noSum_ok (Eq.mp (vcGb sp lp r L.length (.rest 1) (.slice (some (S.next,0)) 0 (.known 0)) (.slice (some (S.next+1,0)) L.length (.rest 1)) S (S.add (.cells [] true)) S2 (fun r=>r=(.slice (some (S.next+1,0)) L.length (.rest 1),S2))) ⟨sld_l hs,lld5 hl,by kernel_rfl,by rw[e2];exact cloned ht h0 hn h3,rfl⟩),.inr ⟨S.next+1,h0,rfl,by omega,by rw[e2];exact add_at (S:=S.add (.cells [] true))⟩,by rw[e2];exact ht.add.add,by rw[e2];show S.next≤S.next+1+1;omega,fun i hi=>?_⟩
  rw[e2,add_ne (by rw[add_next];omega),add_ne (by omega)]
theorem hot83_at (ht:Tidy S) (hl:S.h.get lp=some (logO d room nu P)) (hP:HotP base S P L) (hn:L.length<1000) :
  ∃P2 S',Call1 Tryz.prog 83 [.ptr (some (lp,0))] S (P2,S')∧HotP S.next S' P2 L∧Tidy S'∧S.next≤S'.next∧∀k,k<S.next→S'.h.get k=S.h.get k:=by
 rcases hP with⟨rfl,rfl⟩ | ⟨r,h0,rfl,h2,h3⟩
 ·exact⟨_,S,Call1.of_tm EAuok noSum_ok (Eq.mp (vcGc lp S (fun r=>r=(.slice none 0 (.known 0),S))) ⟨lld5 hl,rfl⟩),.inl ⟨rfl,rfl⟩,ht,Nat.le_refl _,fun _ _=>rfl⟩
 ·obtain⟨S2,e2⟩:∃Y,Y=(S.add (.cells [] true)).add (.cells (rowI L) true):=⟨_,rfl⟩
  refine⟨_,S2,Call1.of_tm EAuok noSum_ok (Eq.mp (vcGd lp r L.length (.rest 1) (.slice (some (S.next,0)) 0 (.known 0)) (.slice (some (S.next+1,0)) L.length (.rest 1)) S (S.add (.cells [] true)) S2 (fun r=>r=(.slice (some (S.next+1,0)) L.length (.rest 1),S2))) ⟨lld5 hl,by kernel_rfl,by rw[e2];exact cloned ht h0 hn h3,rfl⟩),.inr ⟨S.next+1,h0,rfl,by omega,by rw[e2];exact add_at (S:=S.add (.cells [] true))⟩,by rw[e2];exact ht.add.add,by rw[e2];show S.next≤S.next+1+1;omega,fun i hi=>?_⟩
  rw[e2,add_ne (by rw[add_next];omega),add_ne (by omega)]
theorem map_at (hs:S.h.get sp=some (stO d k x c P (.ptr (some (mp,0))) y)):Call1 Tryz.prog 31 [.ptr (some (sp,0))] S (.ptr (some (mp,0)),S) :=
 Call1.of_tm EAuok noSum_ok (Eq.mp (vcMp sp mp S (fun r=>r=(.ptr (some (mp,0)),S))) ⟨sld_m hs,rfl⟩)
theorem super_at (ht:Tidy S) (hs:S.h.get sp=some (stO d k x c P M y)):Call1 Tryz.prog 26 [.ptr (some (sp,0))] S (.agg (sL x c),S):=by
 obtain⟨S1,e1,o1⟩:=(Ov.nil ht).add (.cells (sL (fun _=>0) false) true)
 obtain⟨S2,e2,o2⟩:=o1.stA (E:=EAu) (t:=29) (i:=0) (k:=S.next) (o:=0) (z:=7) (vs:=sL x c) [] (sL (fun _=>0) false) [] (by kernel_rfl) (by kernel_rfl) rfl rfl rfl
 refine exD Tryz.f26 c26 10 [2] EAuok noSum_ok (agg_p (fun v h=>sL_p _ _ v h _)) (Eq.mp (vcSu sp S.next x c S S1 S2 (Left EAu Tryz.f26 10 S (.agg (sL x c)))) ⟨(Ov.nil ht).al e1,sld_s (by rw[o1.old sp (ht.lt hs)];exact hs),e2,?_⟩)
 exact Left.of (rs:=[.cell 2 29]) o2 rfl (by kernel_rfl) rfl (res_cell (x:=.ptr (some (S.next,0))) (by kernel_rfl) (o2.ldA (i:=0) (z:=7) (o:=0) (k:=S.next) (cs:=sL x c)) res_nil) rfl
theorem table_at (ht:Tidy S) (hs:S.h.get sp=some (stO d k x c P M y)):Call1 Tryz.prog 27 [.ptr (some (sp,0))] S (.agg (rL y),S):=by
 obtain⟨S1,e1,o1⟩:=(Ov.nil ht).add (.cells (rL (fun _=>0)) true)
 obtain⟨S2,e2,o2⟩:=o1.stA (E:=EAu) (t:=33) (i:=0) (k:=S.next) (o:=0) (z:=19) (vs:=rL y) [] (rL (fun _=>0)) [] (by kernel_rfl) (by kernel_rfl) rfl rfl rfl
 refine exD Tryz.f27 c27 10 [2] EAuok noSum_ok (agg_p (fun v h=>rL_p _ v h _)) (Eq.mp (vcTa sp S.next y S S1 S2 (Left EAu Tryz.f27 10 S (.agg (rL y)))) ⟨(Ov.nil ht).al e1,sld_t (by rw[o1.old sp (ht.lt hs)];exact hs),e2,?_⟩)
 exact Left.of (rs:=[.cell 2 33]) o2 rfl (by kernel_rfl) rfl (res_cell (x:=.ptr (some (S.next,0))) (by kernel_rfl) (o2.ldA (i:=0) (z:=19) (o:=0) (k:=S.next) (cs:=rL y)) res_nil) rfl
end
section
variable {S:ASt} {d k:Nat} {las:List (List Nat)} {es:List dsk.En}
theorem smay_at (hD:Dsk S d las es) (hn:las.length=9+k) (h1:1≤k) (h2:k≤64):Call1 Tryz.prog 78 [.ptr (some (d,0)),.int .i64 (.ofNat k)] S (.int .i64 (.ofNat 0),S):=by
 have hb:=diskC_b hD
 rw[hn] at hb
 exact Call1.of_tm EAuok (onlyC_ok (diskC_ok (d:=d) (las:=las) (es:=es))) (Eq.mp (vcSy _ d k S (fun r=>r=(.int .i64 (.ofNat 0),S))) ⟨ca hb,eF (by omega),lF h1,gF h2,opAdd (by omega),eF (by omega),ca hb,lF h1,gF h2,opAdd (by omega),nF rfl,rfl⟩)
theorem lmay_at (hD:Dsk S d las es) (hn:las.length=9+k) (h2:k≤64):Call1 Tryz.prog 140 [.ptr (some (d,0)),.int .i64 (.ofNat 5),.int .i64 (.ofNat 4)] S (.int .i64 (.ofNat 0),S):=by
 have hb:=diskC_b hD
 rw[hn] at hb
 exact Call1.of_tm EAuok (onlyC_ok (diskC_ok (d:=d) (las:=las) (es:=es))) (Eq.mp (vcLy _ d (9+k) (5+k) S (fun r=>r=(.int .i64 (.ofNat 0),S))) ⟨ca hb,eF (by omega),ca hb,opSub (by omega),gF (by omega),rfl⟩)
end
end Go.Proofs.YtiafochainjglaaGreatDoor.drp.atu
end
