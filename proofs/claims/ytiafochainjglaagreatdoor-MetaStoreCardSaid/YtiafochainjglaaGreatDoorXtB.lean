/-
  OWN WORK, A PART: an abstract machine for the program's text that the kernel can run, and the proof that it is sound: what it answers is what the program answers; contracts of functions by it. No condition.
-/
import Derived.Test.YtiafochainjglaaGreatDoorMtA
import Derived.Test.YtiafochainjglaaGreatDoorNtA
import Derived.KernelRfl
import Derived.Test.YtiafochainjglaaGreatDoorXtA
import Derived.Test.YtiafochainjglaaGreatDoorNtB
import Derived.Test.YtiafochainjglaaGreatDoorMtH
namespace Go.Proofs.YtiafochainjglaaGreatDoor.drp
open Go Go.Ax Go.Proofs
set_option linter.unusedVariables false
namespace atu
open cd cd2 cd3 cd4 cd5 cd9 oo pu
noncomputable def q2o:List (Nat×Func):=[(6,Tryz.f6),(25,Tryz.f25),(26,Tryz.f26),(27,Tryz.f27),(30,Tryz.f30),(31,Tryz.f31),(32,Tryz.f32),(35,Tryz.f35),(78,Tryz.f78),(79,Tryz.f79),(80,Tryz.f80),(81,Tryz.f81),(82,Tryz.f82),(83,Tryz.f83),(84,Tryz.f84),(90,Tryz.f90),(120,Tryz.f120),(140,Tryz.f140),(141,Tryz.f141),(142,Tryz.f142),(143,Tryz.f143)]
noncomputable def EAu:Env:=envEx Tryz.prog [0,3,4,5,23,24,25,27,28,29,30,31,32,33,34,35,36,37,43,54,64,69,73,75,134,136,144,202] q2o []
noncomputable def c26:Code:=Option.getD Tryz.f26.body .skip
noncomputable def c27:Code:=Option.getD Tryz.f27.body .skip
noncomputable def c79:Code:=Option.getD Tryz.f79.body .skip
noncomputable def qUU:Code:=qSX (qSY (seqR (seqL (qAg 5 c79))))
noncomputable def qVZ:Code:=qSX (qSY (seqR (seqL (qAg 6 c79))))
noncomputable def c25:Code:=Option.getD Tryz.f25.body .skip
noncomputable def q1k:Code→Code
 | .cond _ a _=>a
 | c=>c
noncomputable def B25:Code:=q1k (seqR (seqL (qAg 8 c25)))
noncomputable def q2O:Oper:=Oper.mk (some 111) (Op.buildSlice 69 1 #[(0,Operand.tmp 110)]) 69 "actlog.go:99" #[Edge.mk 5 Ground.data] none
noncomputable def q2N:Oper:=Oper.mk (some 5) (Op.buildSlice 69 0 #[]) 69 "slices.go:362" #[] none
noncomputable def q2y (fr:AFr) (st:ASt):Option (AV×ASt):=aOp EAu (M EAu (drawA EAu) qAa 45).call (M EAu (drawA EAu) qAa 45).round q2N fr st
noncomputable def q2x (fr:AFr) (st:ASt):Option (AV×ASt):=aOp EAu (M EAu (drawA EAu) qAa 52).call (M EAu (drawA EAu) qAa 52).round q2O fr st
noncomputable abbrev qMW:=TM EAu qAa [(35,⟨[],[7],[],[]⟩),(90,⟨[17,19,25,26,38,40,41,4094,4095],[10,31],[],[]⟩),(32,⟨[9,16,17,23,25,26,27],[],[],[]⟩),(142,⟨[9,10],[],[],[]⟩)] fl0 60
noncomputable abbrev qWy (a:CallT):=TM EAu (qA0 [73,56,57] a) [(80,⟨[19,20,31,32,37,10,44,45,54,55,4095],[14,53],[],[]⟩),(81,⟨[5,8,12],[],[],[]⟩),(141,⟨[6,7,8],[],[],[]⟩)] fl0 60
noncomputable abbrev qMU (a b c:Nat):List AV:=[.ptr (some (a,0)),.int .i64 (.ofNat b),.int .i64 (.ofNat c)]
noncomputable abbrev qCl:=TM EAu qAa [] fl0 60
noncomputable abbrev qIC (a:CallT):=TM EAu (qA0 [140,56,59] a) [] fl0 60
noncomputable abbrev qKy (a b c d e:Nat):=xFr [(0,.ptr (some (a,0))),(1,.int .i64 (.ofNat 5)),(2,.int .i64 (.ofNat 4)),(3,.int .i64 (.ofNat b)),(11,.ptr (some (c,0))),(12,.int .u16 (.ofNat d)),(42,.int .i64 (.ofNat 4)),(43,.int .i64 (.ofNat e))] 117
noncomputable abbrev qKA (a b c d:Nat):=xFr [(3,.int .i64 (.ofNat a)),(11,.ptr (some (b,0))),(12,.int .u16 (.ofNat c)),(88,.int .i64 (.ofNat d))] 117
noncomputable abbrev qQz (a:CallT):=qA0 [78,54,55,79,80,81,82,83,84,35] a
noncomputable abbrev qAI (a:Nat):=AV.int .i64 (.ofNat a)
noncomputable abbrev qAs (a b c:Nat):=qAQ EAu a (AV.ptr (some (b,c)))
noncomputable abbrev qBE (a:Nat):=AV.int .u64 (.ofNat a)
noncomputable abbrev qDX:=Operand.const (Value.int .i64 0)
noncomputable abbrev qF2:=Operand.const (Value.int .u64 1)
noncomputable abbrev qJy (a b:Nat):=AV.int .u64 (.ofNat (a / 2 ^ b % 2))
noncomputable abbrev qJx (a b:Nat):=AV.int .u64 (.ofNat (a / 2 ^ b))
noncomputable abbrev qJw (a:ASt) (b:Nat):=ASt.mk a.h (a.next+b)
theorem vcMa (k s j mp r:Nat) (S S1:ASt) (Q:AV×ASt→Prop) :
 Vq (qMW.call 35 [.ptr (some (mp,0)),.slice (some (r,0)) 1 (.known 1)] S) Q (al (qAs 3 mp 0) S (qAI k) (as_ S (qAD EAu .gtr 3 (.tmp 9) qDX (qAI k) (qAI 0)) (.bool true) (al (qAs 3 r 0) S (qAI j) (as_ S (qAD EAu .lss 3 (.tmp 18) qDX (qAI j) (qAI 0)) (.bool false) (al (qAs 3 mp 0) S (qAI k) (as_ S (qAD EAu .geq 3 (.tmp 21) (.tmp 25) (qAI j) (qAI k)) (.bool false) (as_ S (qAD EAu .geq 3 (.tmp 8) qDX (qAI j) (qAI 0)) (.bool true) (al (qAs 3 mp 0) S (qAI k) (as_ S (qAD EAu .lss 3 (.tmp 12) (.tmp 16) (qAI j) (qAI k)) (.bool true) (al (qAs 24 mp 1) S (qBE s) (as_ S (qAD EAu .shr 24 (.tmp 23) (.tmp 24) (qBE s) (qAI j)) (qJx s j) (as_ S (qAD EAu .and 24 (.tmp 25) qF2 (qJx s j) (qBE 1)) (qJy s j) (as_ S (qAD EAu .eql 24 (.tmp 26) qF2 (qJy s j) (qBE 1)) (.bool false) (al (qAs 24 mp 1) (qJw S 10) (qBE s) (as_ (qJw S 10) (qAD EAu .shl 24 qF2 (.tmp 39) (qBE 1) (qAI j)) (.int .u64 (.ofNat (2 ^ j))) (as_ (qJw S 10) (qAD EAu .xor 24 (.tmp 38) (.tmp 40) (qBE s) (.int .u64 (.ofNat (2 ^ j)))) (.int .u64 (.ofNat (Nat.xor s (2 ^ j)))) (aa (Option.map (fun s=>(qAC,s)) (qAL EAu 24 (.ptr (some (mp,1))) (.int .u64 (.ofNat (Nat.xor s (2 ^ j)))) (qJw S 10))) (.tuple [],S1) (ah (qAh []) (aq (Q (.int .i64 (.ofNat 1),S1))))))))))))))))))))):=vq (by kernel_rfl)
theorem vcMb (k s j mp r:Nat) (S:ASt) (Q:AV×ASt→Prop) :
 Vq (qMW.call 35 [.ptr (some (mp,0)),.slice (some (r,0)) 1 (.known 1)] S) Q (al (qAs 3 mp 0) S (qAI k) (as_ S (qAD EAu .gtr 3 (.tmp 9) qDX (qAI k) (qAI 0)) (.bool true) (al (qAs 3 r 0) S (qAI j) (as_ S (qAD EAu .lss 3 (.tmp 18) qDX (qAI j) (qAI 0)) (.bool false) (al (qAs 3 mp 0) S (qAI k) (as_ S (qAD EAu .geq 3 (.tmp 21) (.tmp 25) (qAI j) (qAI k)) (.bool false) (as_ S (qAD EAu .geq 3 (.tmp 8) qDX (qAI j) (qAI 0)) (.bool true) (al (qAs 3 mp 0) S (qAI k) (as_ S (qAD EAu .lss 3 (.tmp 12) (.tmp 16) (qAI j) (qAI k)) (.bool true) (al (qAs 24 mp 1) S (qBE s) (as_ S (qAD EAu .shr 24 (.tmp 23) (.tmp 24) (qBE s) (qAI j)) (qJx s j) (as_ S (qAD EAu .and 24 (.tmp 25) qF2 (qJx s j) (qBE 1)) (qJy s j) (as_ S (qAD EAu .eql 24 (.tmp 26) qF2 (qJy s j) (qBE 1)) (.bool true) (aq (Q (.int .i64 (.ofNat 0),S)))))))))))))))):=vq (by kernel_rfl)
theorem vcMc (k j mp r:Nat) (S:ASt) (Q:AV×ASt→Prop) :
 Vq (qMW.call 35 [.ptr (some (mp,0)),.slice (some (r,0)) 1 (.known 1)] S) Q (al (qAs 3 mp 0) S (qAI k) (as_ S (qAD EAu .gtr 3 (.tmp 9) qDX (qAI k) (qAI 0)) (.bool true) (al (qAs 3 r 0) S (qAI j) (as_ S (qAD EAu .lss 3 (.tmp 18) qDX (qAI j) (qAI 0)) (.bool false) (al (qAs 3 mp 0) S (qAI k) (as_ S (qAD EAu .geq 3 (.tmp 21) (.tmp 25) (qAI j) (qAI k)) (.bool true) (aq (Q (.int .i64 (.ofNat 0),S))))))))):=vq (by kernel_rfl)
noncomputable abbrev qEH:=Operand.const (Value.int .i64 1)
noncomputable abbrev qG2 (a b:Nat):List AV:=[.ptr (some (a,0)),.int .i64 (.ofNat b)]
noncomputable abbrev qWx (a:Nat) (b:ASt):=qFi (AV.agg [AV.int .i64 (.ofNat a),AV.int .u64 (.ofNat 0)]) b
noncomputable abbrev qMV:=Operand.const (Value.int .i64 64)
noncomputable abbrev qRB (a:Nat):=AV.int .u64 (.ofNat (2 ^ a - 1))
noncomputable abbrev qDj (a b:Nat) (c:CallT) (d:Nat):=M EAu (drawA EAu) (qA0 [a,56,b] c) d
noncomputable abbrev qIG (a:List Nat):=AV.tuple [AV.agg (bl a),AV.int .i64 (.ofNat 0)]
noncomputable abbrev qIE (a:Nat) (b:List Nat) (c:ASt):=qAL EAu 54 (AV.ptr (some (a,0))) (AV.agg (bl b)) c
noncomputable abbrev qWw (a b:Nat):=AV.tuple [AV.int .u64 (.ofNat a),AV.int .i64 (.ofNat b)]
theorem vcLa (q:CallT) (d k n s u mp k1:Nat) (v:Int) (B:List Nat) (S S1 S2 S3 S4:ASt) (Q:AV×ASt→Prop) :
 Vq ((qWy q).call 80 (qMU d 4 k) S) Q (as_ S (qAD EAu .lss 3 (.tmp 4) qEH (qAI k) (qAI 1)) (.bool false) (as_ S (qAD EAu .gtr 3 (.tmp 7) qMV (qAI k) (qAI 64)) (.bool false) (aa (qWx k S) (.ptr (some (mp,0)),S1) (al ((qDj 73 57 q 53).call 73 [.ptr (some (d,0))]) S1 (qAI n) (as_ S1 (qAD EAu .eql 3 (.tmp 19) qDX (qAI n) (qAI 0)) (.bool false) (al ((qDj 73 57 q 51).call 73 [.ptr (some (d,0))]) S1 (qAI n) (as_ S1 (qAD EAu .geq 3 (.tmp 29) (.tmp 31) (qAI 4) (qAI n)) (.bool false) (al ((qDj 73 57 q 54).call 56 (qG2 d 4)) S1 (qIG B) (aa (qAY EAu 54 S1) (.ptr (some (k1,0)),S2) (aa (Option.map (fun s=>(qAC,s)) (qIE k1 B S2)) (.tuple [],S3) (al (qAs 54 k1 0) S3 (.agg (bl B)) (al ((qDj 73 57 q 52).call 57 [.agg (bl B)]) S3 (qWw s 0) (al (qAs 3 mp 0) S3 (qAI k) (as_ S3 (qAD EAu .shl 24 qF2 (.tmp 6) (qBE 1) (qAI k)) (.int .u64 v) (as_ S3 (qAD EAu .sub 24 (.tmp 7) qF2 (.int .u64 v) (qBE 1)) (qRB k) (as_ S3 (qAD EAu .andNot 24 (.tmp 51) (.tmp 53) (qBE s) (qRB k)) (qBE u) (as_ S3 (qAD EAu .neq 24 (.tmp 54) (.const (.int .u64 0)) (qBE u) (qBE 0)) (.bool false) (aa (Option.map (fun s=>(qAC,s)) (qAL EAu 24 (.ptr (some (mp,1))) (qBE s) S3)) (.tuple [],S4) (aq (Q (.tuple (qG2 mp 0),S4))))))))))))))))))))):=vq (by kernel_rfl)
noncomputable abbrev qID (a:CallT) (b:Nat):=M EAu (drawA EAu) (qA0 [73,62,19,40] a) b
theorem vcSv (q:CallT) (d k n s mp:Nat) (B:List Nat) (S S1 S2:ASt) (Q:AV×ASt→Prop) :
 Vq ((TM EAu (qA0 [73,62,19,40] q) [(84,⟨[14,15,23,24,31,32,33,38],[10],[],[]⟩),(142,⟨[9,10],[],[],[]⟩)] fl0 60).call 84 [.ptr (some (mp,0)),.ptr (some (d,0)),.int .i64 (.ofNat 4)] S) Q (al (qAs 3 mp 0) S (qAI k) (as_ S (qAD EAu .gtr 3 (.tmp 9) qDX (qAI k) (qAI 0)) (.bool true) (al ((qID q 54).call 73 [.ptr (some (d,0))]) S (qAI n) (as_ S (qAD EAu .eql 3 (.tmp 14) qDX (qAI n) (qAI 0)) (.bool false) (al ((qID q 52).call 73 [.ptr (some (d,0))]) S (qAI n) (as_ S (qAD EAu .geq 3 (.tmp 21) (.tmp 23) (qAI 4) (qAI n)) (.bool false) (al (qAs 24 mp 1) S (qBE s) (al ((qID q 54).call 62 [.int .u64 (.ofNat s)]) S (.agg (bl B)) (aa ((qID q 54).call 19 [.ptr (some (d,0)),.int .i64 (.ofNat 4),.agg (bl B)] S) (.int .i64 (.ofNat 0),S1) (aa ((qID q 54).call 40 [.ptr (some (d,0))] S1) (.int .i64 (.ofNat 0),S2) (aq (Q (.int .i64 (.ofNat 0),S2))))))))))))):=vq (by kernel_rfl)
noncomputable abbrev qCR (a b:Nat):=AV.int .i64 (.ofNat (a+b))
theorem vcSy (q:CallT) (d k:Nat) (S:ASt) (Q:AV×ASt→Prop) :
 Vq ((TM EAu (qA0 [73] q) [(78,⟨[7,8,12,15,18],[11,17],[],[]⟩),(120,⟨[4,7,10],[],[],[]⟩)] fl0 60).call 78 [.ptr (some (d,0)),.int .i64 (.ofNat k)] S) Q (al ((M EAu (drawA EAu) (qA0 [73] q) 54).call 73 [.ptr (some (d,0))]) S (qCR 9 k) (as_ S (qAD EAu .eql 3 (.tmp 7) qDX (qCR 9 k) (qAI 0)) (.bool false) (as_ S (qAD EAu .lss 3 (.tmp 3) qEH (qAI k) (qAI 1)) (.bool false) (as_ S (qAD EAu .gtr 3 (.tmp 6) qMV (qAI k) (qAI 64)) (.bool false) (as_ S (qAD EAu .add 3 (.const (.int .i64 9)) (.tmp 9) (qAI 9) (qAI k)) (qCR 9 k) (as_ S (qAD EAu .eql 3 (.tmp 11) qDX (qCR 9 k) (qAI 0)) (.bool false) (al ((M EAu (drawA EAu) (qA0 [73] q) 52).call 73 [.ptr (some (d,0))]) S (qCR 9 k) (as_ S (qAD EAu .lss 3 (.tmp 3) qEH (qAI k) (qAI 1)) (.bool false) (as_ S (qAD EAu .gtr 3 (.tmp 6) qMV (qAI k) (qAI 64)) (.bool false) (as_ S (qAD EAu .add 3 (.const (.int .i64 9)) (.tmp 9) (qAI 9) (qAI k)) (qCR 9 k) (as_ S (qAD EAu .neq 3 (.tmp 15) (.tmp 17) (qCR 9 k) (qCR 9 k)) (.bool false) (aq (Q (.int .i64 (.ofNat 0),S)))))))))))))):=vq (by kernel_rfl)
theorem vcLy (q:CallT) (d n u:Nat) (S:ASt) (Q:AV×ASt→Prop) :
 Vq ((TM EAu (qA0 [73] q) [(140,⟨[9,10,25,27,28],[],[],[]⟩)] fl0 60).call 140 (qMU d 5 4) S) Q (al ((M EAu (drawA EAu) (qA0 [73] q) 54).call 73 [.ptr (some (d,0))]) S (qAI n) (as_ S (qAD EAu .eql 3 (.tmp 9) qDX (qAI n) (qAI 0)) (.bool false) (al ((M EAu (drawA EAu) (qA0 [73] q) 52).call 73 [.ptr (some (d,0))]) S (qAI n) (as_ S (qAD EAu .sub 3 (.tmp 25) (.tmp 26) (qAI n) (qAI 4)) (qAI u) (as_ S (qAD EAu .gtr 3 (.tmp 23) (.tmp 27) (qAI 5) (qAI u)) (.bool false) (aq (Q (.int .i64 (.ofNat 0),S)))))))):=vq (by kernel_rfl)
theorem vcGa (sp lp:Nat) (S:ASt) (Q:AV×ASt→Prop) :
 Vq ((TM EAu qAa [(30,⟨[8],[9],[],[]⟩),(83,⟨[8],[9],[],[]⟩),(143,⟨[5,7],[],[],[]⟩)] fl0 60).call 30 [.ptr (some (sp,0))] S) Q (al (qAs 134 sp 9) S (.ptr (some (lp,0))) (al (qAs 69 lp 5) S (.slice none 0 (.known 0)) (aq (Q (.slice none 0 (.known 0),S))))):=vq (by kernel_rfl)
theorem vcGb (sp lp r n:Nat) (C:Cap) (W P2:AV) (S S1 S2:ASt) (Q:AV×ASt→Prop) :
 Vq ((TM EAu qAa [(30,⟨[8],[9],[],[]⟩),(83,⟨[8],[9],[],[]⟩),(143,⟨[5,7],[],[],[]⟩)] fl0 60).call 30 [.ptr (some (sp,0))] S) Q (al (qAs 134 sp 9) S (.ptr (some (lp,0))) (al (qAs 69 lp 5) S (.slice (some (r,0)) n C) (aa (q2y (xFr [] 8) S) (W,S1) (aa (qAU EAu .append [69,69] [W,.slice (some (r,0)) n C] S1) (P2,S2) (aq (Q (P2,S2))))))):=vq (by kernel_rfl)
theorem vcMp (sp mp:Nat) (S:ASt) (Q:AV×ASt→Prop) :
 Vq ((TM EAu qAa [(31,⟨[8],[],[],[]⟩)] fl0 60).call 31 [.ptr (some (sp,0))] S) Q (al (qAs 73 sp 10) S (.ptr (some (mp,0))) (aq (Q (.ptr (some (mp,0)),S)))):=vq (by kernel_rfl)
theorem vcSu (sp k0:Nat) (x:Nat→Nat) (c:Bool) (S S1 S2:ASt) (Q:qz2) :
 Vq (qCl.ex ⟨[2,9,4095],[],[],[]⟩ none c26 {m:=qAM [.ptr (some (sp,0))] 0 .e,n:=10,defs:=[]} S) (fun r=>Q (qAx [2] r)) (aa (qAY EAu 29 S) (.ptr (some (k0,0)),S1) (al (qAs 29 sp 2) S1 (.agg (sL x c)) (aa (Option.map (fun s=>(qAC,s)) (qAL EAu 29 (.ptr (some (k0,0))) (.agg (sL x c)) S1)) (.tuple [],S2) (aq (Q (.ret,xFr [(2,.ptr (some (k0,0)))] 10,S2)))))):=vq (by kernel_rfl)
theorem q1S (sp k0:Nat) (y:Nat→Nat) (S S1 S2:ASt) (Q:qz2) :
 Vq (qCl.ex ⟨[2,9,4095],[],[],[]⟩ none c27 {m:=qAM [.ptr (some (sp,0))] 0 .e,n:=10,defs:=[]} S) (fun r=>Q (qAx [2] r)) (aa (qAY EAu 33 S) (.ptr (some (k0,0)),S1) (al (qAs 33 sp 11) S1 (.agg (rL y)) (aa (Option.map (fun s=>(qAC,s)) (qAL EAu 33 (.ptr (some (k0,0))) (.agg (rL y)) S1)) (.tuple [],S2) (aq (Q (.ret,xFr [(2,.ptr (some (k0,0)))] 10,S2)))))):=vq (by kernel_rfl)
noncomputable abbrev qG1:=Operand.const (Value.int .i64 16)
noncomputable abbrev qRC (a b c:Nat):List AV:=[.ptr (some (a,0)),.int .i64 (.ofNat b),.int .i64 (.ofNat c)]
abbrev qDl:Fl:=⟨[22,27,30,41,44,50,51,14,58,59,70,71,77,78,80,87,89,93,94,95,100,101,103,109,111,112,115,4094,4095],[],[],[]⟩
abbrev qNh:Fl:=⟨[17,22,25,30,34,45,58,70,84,92,93,98,102,103,104,106,107,108,115,117,119,120,121,123,127,129,4094,4095],[],[],[]⟩
theorem q13 (q:CallT) (d room lp:Nat) (S S1:ASt) (Q:qz2) :
 Vq ((qIC q).ex qDl none (qL5 5 c79) {m:=qAM [.ptr (some (d,0)),.int .i64 (.ofNat 5),.int .i64 (.ofNat 4),.int .i64 (.ofNat room)] 0 .e,n:=117,defs:=[]} S) (fun r=>Q (qAx [0,1,2,3,11,12] r)) (al ((qDj 140 59 q 57).call 140 (qRC d 5 4)) S (qAI 0) (as_ S (qAD EAu .lss 3 (.tmp 26) qEH (qAI room) (qAI 1)) (.bool false) (as_ S (qAD EAu .gtr 3 (.tmp 29) qG1 (qAI room) (qAI 16)) (.bool false) (aa (qFi (.agg [.ptr (some (d,0)),.int .i64 (.ofNat 5),.int .i64 (.ofNat 4),.int .i64 (.ofNat room),.int .u64 (.ofNat 0),.slice none 0 (.known 0)]) S) (.ptr (some (lp,0)),S1) (aq (Q (.normal,xFr [(0,.ptr (some (d,0))),(1,.int .i64 (.ofNat 5)),(2,.int .i64 (.ofNat 4)),(3,.int .i64 (.ofNat room)),(11,.ptr (some (lp,0))),(12,.int .u16 (.ofNat 0))] 117,S1))))))):=vq (by kernel_rfl)
theorem q12 (d room lp h:Nat) (S:ASt) (Q:qz2) :
 Vq (qCl.ex qDl none (seqL (seqL (qAg 5 c79))) (xFr [(0,.ptr (some (d,0))),(1,.int .i64 (.ofNat 5)),(2,.int .i64 (.ofNat 4)),(3,.int .i64 (.ofNat room)),(11,.ptr (some (lp,0))),(12,.int .u16 (.ofNat h))] 117) S) (fun r=>Q (qAx [0,1,2,3,11,12,42,43] r)) (aq (Q (.normal,xFr [(0,.ptr (some (d,0))),(1,.int .i64 (.ofNat 5)),(2,.int .i64 (.ofNat 4)),(3,.int .i64 (.ofNat room)),(11,.ptr (some (lp,0))),(12,.int .u16 (.ofNat h)),(42,.int .i64 (.ofNat 4)),(43,.int .i64 (.ofNat 0))] 117,S))):=vq (by kernel_rfl)
noncomputable abbrev qJz (a b c:Nat):=AV.tuple [AV.int .u64 (.ofNat a),AV.int .u16 (.ofNat b),AV.int .i64 (.ofNat c)]
noncomputable abbrev qJv (a b:Nat):List AV:=[.ptr (some (a,0)),.int .i64 (.ofNat (5+b))]
theorem q11 (q:CallT) (d room lp h i k1 n g:Nat) (B:List Nat) (S S1 S2:ASt) (Q:qz2) :
 Vq ((qIC q).ex qDl none qUU (qKy d room lp h i) S) (fun r=>Q (qAx [0,1,2,3,11,12,42,43] r)) (as_ S (qAD EAu .lss 3 (.tmp 43) (.tmp 42) (qAI i) (qAI 4)) (.bool true) (as_ S (qAD EAu .add 3 (.tmp 48) (.tmp 49) (qAI 5) (qAI i)) (qCR 5 i) (al ((qDj 140 59 q 53).call 56 (qJv d i)) S (qIG B) (aa (qAY EAu 54 S) (.ptr (some (k1,0)),S1) (aa (Option.map (fun s=>(qAC,s)) (qIE k1 B S1)) (.tuple [],S2) (al (qAs 54 k1 0) S2 (.agg (bl B)) (al ((qDj 140 59 q 51).call 59 [.agg (bl B)]) S2 (qJz n g 4) (as_ S2 (qAD EAu .add 3 (.tmp 43) qEH (qAI i) (qAI 1)) (qCR i 1) (aq (Q (.normal,xFr [(0,.ptr (some (d,0))),(1,.int .i64 (.ofNat 5)),(2,.int .i64 (.ofNat 4)),(3,.int .i64 (.ofNat room)),(11,.ptr (some (lp,0))),(12,.int .u16 (.ofNat h)),(42,.int .i64 (.ofNat 4)),(43,.int .i64 (.ofNat (i+1)))] 117,S2))))))))))):=vq (by kernel_rfl)
theorem q10 (q:CallT) (d room lp h i k1 n g nu:Nat) (B:List Nat) (S S1 S2:ASt) (Q:qz2) :
 Vq ((qIC q).ex qDl none qUU (qKy d room lp h i) S) (fun r=>Q (qAx [0,1,2,3,11,12,42,43] r)) (as_ S (qAD EAu .lss 3 (.tmp 43) (.tmp 42) (qAI i) (qAI 4)) (.bool true) (as_ S (qAD EAu .add 3 (.tmp 48) (.tmp 49) (qAI 5) (qAI i)) (qCR 5 i) (al ((qDj 140 59 q 53).call 56 (qJv d i)) S (qIG B) (aa (qAY EAu 54 S) (.ptr (some (k1,0)),S1) (aa (Option.map (fun s=>(qAC,s)) (qIE k1 B S1)) (.tuple [],S2) (al (qAs 54 k1 0) S2 (.agg (bl B)) (al ((qDj 140 59 q 51).call 59 [.agg (bl B)]) S2 (qJz n g 0) (al (qAs 24 lp 4) S2 (qBE nu) (as_ S2 (qAD EAu .gtr 24 (.tmp 66) (.tmp 70) (qBE n) (qBE nu)) (.bool false) (as_ S2 (qAD EAu .add 3 (.tmp 43) qEH (qAI i) (qAI 1)) (qCR i 1) (aq (Q (.normal,xFr [(0,.ptr (some (d,0))),(1,.int .i64 (.ofNat 5)),(2,.int .i64 (.ofNat 4)),(3,.int .i64 (.ofNat room)),(11,.ptr (some (lp,0))),(12,.int .u16 (.ofNat h)),(42,.int .i64 (.ofNat 4)),(43,.int .i64 (.ofNat (i+1)))] 117,S2))))))))))))):=vq (by kernel_rfl)
theorem vcOe (q:CallT) (d room lp h i k1 n g nu:Nat) (B:List Nat) (S S1 S2:ASt) (Q:qz2) :
 Vq ((qIC q).ex qDl none qUU (qKy d room lp h i) S) (fun r=>Q (qAx [0,1,2,3,11,12,42,43] r)) (as_ S (qAD EAu .lss 3 (.tmp 43) (.tmp 42) (qAI i) (qAI 4)) (.bool true) (as_ S (qAD EAu .add 3 (.tmp 48) (.tmp 49) (qAI 5) (qAI i)) (qCR 5 i) (al ((qDj 140 59 q 53).call 56 (qJv d i)) S (qIG B) (aa (qAY EAu 54 S) (.ptr (some (k1,0)),S1) (aa (Option.map (fun s=>(qAC,s)) (qIE k1 B S1)) (.tuple [],S2) (al (qAs 54 k1 0) S2 (.agg (bl B)) (al ((qDj 140 59 q 51).call 59 [.agg (bl B)]) S2 (qJz n g 0) (al (qAs 24 lp 4) S2 (qBE nu) (as_ S2 (qAD EAu .gtr 24 (.tmp 66) (.tmp 70) (qBE n) (qBE nu)) (.bool true) (as_ S2 (qAD EAu .rem 24 (.tmp 74) (.tmp 76) (qBE n) (qBE 4)) (.int .u64 (.ofNat (n % 4))) (al (qA5 EAu 24 3 (.int .u64 (.ofNat (n % 4)))) S2 (.int .i64 (.ofNat (n % 4))) (as_ S2 (qAD EAu .eql 3 (.tmp 78) (.tmp 79) (.int .i64 (.ofNat (n % 4))) (qAI i)) (.bool false) (as_ S2 (qAD EAu .add 3 (.tmp 43) qEH (qAI i) (qAI 1)) (qCR i 1) (aq (Q (.normal,xFr [(0,.ptr (some (d,0))),(1,.int .i64 (.ofNat 5)),(2,.int .i64 (.ofNat 4)),(3,.int .i64 (.ofNat room)),(11,.ptr (some (lp,0))),(12,.int .u16 (.ofNat h)),(42,.int .i64 (.ofNat 4)),(43,.int .i64 (.ofNat (i+1)))] 117,S2)))))))))))))))):=vq (by kernel_rfl)
theorem vcOf (q:CallT) (d room lp h i k1 n g nu:Nat) (B:List Nat) (S S1 S2 S3:ASt) (Q:qz2) :
 Vq ((qIC q).ex qDl none qUU (qKy d room lp h i) S) (fun r=>Q (qAx [0,1,2,3,11,12,42,43] r)) (as_ S (qAD EAu .lss 3 (.tmp 43) (.tmp 42) (qAI i) (qAI 4)) (.bool true) (as_ S (qAD EAu .add 3 (.tmp 48) (.tmp 49) (qAI 5) (qAI i)) (qCR 5 i) (al ((qDj 140 59 q 53).call 56 (qJv d i)) S (qIG B) (aa (qAY EAu 54 S) (.ptr (some (k1,0)),S1) (aa (Option.map (fun s=>(qAC,s)) (qIE k1 B S1)) (.tuple [],S2) (al (qAs 54 k1 0) S2 (.agg (bl B)) (al ((qDj 140 59 q 51).call 59 [.agg (bl B)]) S2 (qJz n g 0) (al (qAs 24 lp 4) S2 (qBE nu) (as_ S2 (qAD EAu .gtr 24 (.tmp 66) (.tmp 70) (qBE n) (qBE nu)) (.bool true) (as_ S2 (qAD EAu .rem 24 (.tmp 74) (.tmp 76) (qBE n) (qBE 4)) (.int .u64 (.ofNat (n % 4))) (al (qA5 EAu 24 3 (.int .u64 (.ofNat (n % 4)))) S2 (.int .i64 (.ofNat (n % 4))) (as_ S2 (qAD EAu .eql 3 (.tmp 78) (.tmp 79) (.int .i64 (.ofNat (n % 4))) (qAI i)) (.bool true) (aa (Option.map (fun s=>(qAC,s)) (qAL EAu 24 (.ptr (some (lp,4))) (qBE n) S2)) (.tuple [],S3) (as_ S3 (qAD EAu .add 3 (.tmp 43) qEH (qAI i) (qAI 1)) (qCR i 1) (aq (Q (.normal,xFr [(0,.ptr (some (d,0))),(1,.int .i64 (.ofNat 5)),(2,.int .i64 (.ofNat 4)),(3,.int .i64 (.ofNat room)),(11,.ptr (some (lp,0))),(12,.int .u16 (.ofNat g)),(42,.int .i64 (.ofNat 4)),(43,.int .i64 (.ofNat (i+1)))] 117,S3))))))))))))))))):=vq (by kernel_rfl)
theorem vcOg (d room lp h i:Nat) (S:ASt) (Q:qz2) :
 Vq (qCl.ex qDl none qUU (qKy d room lp h i) S) (fun r=>Q (qAx [3,11,12] r)) (as_ S (qAD EAu .lss 3 (.tmp 43) (.tmp 42) (qAI i) (qAI 4)) (.bool false) (aq (Q (.exit 0,xFr [(3,.int .i64 (.ofNat room)),(11,.ptr (some (lp,0))),(12,.int .u16 (.ofNat h))] 117,S)))):=vq (by kernel_rfl)
theorem vcOh (room lp h:Nat) (S:ASt) (Q:qz2) :
 Vq (qCl.ex qDl none (seqL (seqL (qAg 6 c79))) (xFr [(3,.int .i64 (.ofNat room)),(11,.ptr (some (lp,0))),(12,.int .u16 (.ofNat h))] 117) S) (fun r=>Q (qAx [3,11,12,88] r)) (aq (Q (.normal,xFr [(3,.int .i64 (.ofNat room)),(11,.ptr (some (lp,0))),(12,.int .u16 (.ofNat h)),(88,.int .i64 (.ofNat 0))] 117,S))):=vq (by kernel_rfl)
noncomputable abbrev qDx (a:Nat):=AV.int .u16 (.ofNat a)
noncomputable abbrev qG0:=Operand.const (Value.int .u16 1)
noncomputable abbrev qGZ (a b:Nat):=AV.int .u16 (.ofNat (a / 2 ^ b % 2))
noncomputable abbrev qGY (a b:Nat):=AV.int .u16 (.ofNat (a / 2 ^ b))
theorem vcOi (room lp h x:Nat) (S:ASt) (Q:qz2) :
 Vq (qCl.ex qDl none qVZ (qKA room lp h x) S) (fun r=>Q (qAx [3,11,12,88] r)) (as_ S (qAD EAu .lss 3 (.tmp 88) qG1 (qAI x) (qAI 16)) (.bool true) (as_ S (qAD EAu .shr 34 (.tmp 91) (.tmp 92) (qDx h) (qAI x)) (qGY h x) (as_ S (qAD EAu .and 34 (.tmp 93) qG0 (qGY h x) (qDx 1)) (qGZ h x) (as_ S (qAD EAu .eql 34 (.tmp 94) qG0 (qGZ h x) (qDx 1)) (.bool false) (as_ S (qAD EAu .add 3 (.tmp 88) qEH (qAI x) (qAI 1)) (qCR x 1) (aq (Q (.normal,xFr [(3,.int .i64 (.ofNat room)),(11,.ptr (some (lp,0))),(12,.int .u16 (.ofNat h)),(88,.int .i64 (.ofNat (x+1)))] 117,S)))))))):=vq (by kernel_rfl)
noncomputable abbrev qRA (a:AV):=qAU EAu Builtin.len [69] [a]
theorem vcOj (room lp h x n:Nat) (P:AV) (S:ASt) (Q:qz2) :
 Vq (qCl.ex qDl none qVZ (qKA room lp h x) S) (fun r=>Q (qAx [3,11,12,88] r)) (as_ S (qAD EAu .lss 3 (.tmp 88) qG1 (qAI x) (qAI 16)) (.bool true) (as_ S (qAD EAu .shr 34 (.tmp 91) (.tmp 92) (qDx h) (qAI x)) (qGY h x) (as_ S (qAD EAu .and 34 (.tmp 93) qG0 (qGY h x) (qDx 1)) (qGZ h x) (as_ S (qAD EAu .eql 34 (.tmp 94) qG0 (qGZ h x) (qDx 1)) (.bool true) (al (qAs 69 lp 5) S P (al (qRA P) S (qAI n) (as_ S (qAD EAu .lss 3 (.tmp 101) (.tmp 102) (qAI n) (qAI room)) (.bool false) (as_ S (qAD EAu .add 3 (.tmp 88) qEH (qAI x) (qAI 1)) (qCR x 1) (aq (Q (.normal,xFr [(3,.int .i64 (.ofNat room)),(11,.ptr (some (lp,0))),(12,.int .u16 (.ofNat h)),(88,.int .i64 (.ofNat (x+1)))] 117,S))))))))))):=vq (by kernel_rfl)
theorem vcOk (room lp h x n:Nat) (P W P2:AV) (S S1 S2 S3:ASt) (Q:qz2) :
 Vq (qCl.ex qDl none qVZ (qKA room lp h x) S) (fun r=>Q (qAx [3,11,12,88] r)) (as_ S (qAD EAu .lss 3 (.tmp 88) qG1 (qAI x) (qAI 16)) (.bool true) (as_ S (qAD EAu .shr 34 (.tmp 91) (.tmp 92) (qDx h) (qAI x)) (qGY h x) (as_ S (qAD EAu .and 34 (.tmp 93) qG0 (qGY h x) (qDx 1)) (qGZ h x) (as_ S (qAD EAu .eql 34 (.tmp 94) qG0 (qGZ h x) (qDx 1)) (.bool true) (al (qAs 69 lp 5) S P (al (qRA P) S (qAI n) (as_ S (qAD EAu .lss 3 (.tmp 101) (.tmp 102) (qAI n) (qAI room)) (.bool true) (al (qAs 69 lp 5) S P (aa (q2x (xFr [(110,.int .i64 (.ofNat x))] 117) S) (W,S1) (aa (qAU EAu .append [69,69] [P,W] S1) (P2,S2) (aa (Option.map (fun s=>(qAC,s)) (qAL EAu 69 (.ptr (some (lp,5))) P2 S2)) (.tuple [],S3) (as_ S3 (qAD EAu .add 3 (.tmp 88) qEH (qAI x) (qAI 1)) (qCR x 1) (aq (Q (.normal,xFr [(3,.int .i64 (.ofNat room)),(11,.ptr (some (lp,0))),(12,.int .u16 (.ofNat h)),(88,.int .i64 (.ofNat (x+1)))] 117,S3))))))))))))))):=vq (by kernel_rfl)
theorem vcOl (room lp h x:Nat) (S:ASt) (Q:qz2) :
 Vq (qCl.ex qDl none qVZ (qKA room lp h x) S) (fun r=>Q (qAx [11] r)) (as_ S (qAD EAu .lss 3 (.tmp 88) qG1 (qAI x) (qAI 16)) (.bool false) (aq (Q (.exit 2,xFr [(11,.ptr (some (lp,0)))] 117,S)))):=vq (by kernel_rfl)
theorem vcOm (lp:Nat) (S:ASt) (Q:qz2) :
 Vq (qCl.ex qDl none (qAg 7 c79) (xFr [(11,.ptr (some (lp,0)))] 117) S) (fun r=>Q (qAx [8,9] r)) (aq (Q (.ret,xFr [(8,.ptr (some (lp,0))),(9,.int .i64 (.ofNat 0))] 117,S))):=vq (by kernel_rfl)
noncomputable abbrev qIF (a:CallT) (b:Nat):=M EAu (drawA EAu) (qQz a) b
theorem vcAa (q:CallT) (d k room sp lp t:Nat) (x y:Nat→Nat) (c:Bool) (S S1 S2 S3 S4 S5:ASt) (Q:qz2) :
 Vq ((TM EAu (qQz q) [] fl0 60).ex qNh none (qL5 7 c25) {m:=qAM (qMU d k room) 0 .e,n:=134,defs:=[]} S) (fun r=>Q (qAx [0,1,9] r)) (al ((qIF q 56).call 78 (qG2 d k)) S (qAI 0) (as_ S (qAD EAu .lss 3 (.tmp 21) qEH (qAI room) (qAI 1)) (.bool false) (as_ S (qAD EAu .gtr 3 (.tmp 24) qG1 (qAI room) (qAI 16)) (.bool false) (aa (qFi (.agg [.ptr (some (d,0)),.int .i64 (.ofNat k),.int .i64 (.ofNat 0),.bool false,.int .u64 (.ofNat 0),.int .u64 (.ofNat 0),.int .u64 (.ofNat 0),.int .u64 (.ofNat 0),.int .u64 (.ofNat 0),.ptr none,.ptr none,.int .u64 (.ofNat 0),.int .u64 (.ofNat 0),.int .u64 (.ofNat 0),.int .u64 (.ofNat 0),.int .u64 (.ofNat 0),.int .u64 (.ofNat 0),.int .u64 (.ofNat 0),.int .u64 (.ofNat 0),.int .u64 (.ofNat 0),.int .u64 (.ofNat 0),.int .u64 (.ofNat 0),.int .u64 (.ofNat 0),.int .u64 (.ofNat 0),.int .u64 (.ofNat 0),.int .u64 (.ofNat 0),.int .u64 (.ofNat 0),.int .u64 (.ofNat 0),.int .i64 (.ofNat 0),.int .i64 (.ofNat 0),.int .i64 (.ofNat 0)]) S) (.ptr (some (sp,0)),S1) (al ((qIF q 52).call 54 [.ptr (some (d,0))]) S1 (.tuple [.agg (sL x c),.int .i64 (.ofNat 0)]) (aa (Option.map (fun s=>(qAC,s)) (qAL EAu 29 (.ptr (some (sp,2))) (.agg (sL x c)) S1)) (.tuple [],S2) (al ((qIF q 51).call 55 (qG2 d 2)) S2 (.tuple [.agg (rL y),.int .u64 (.ofNat t),.int .i64 (.ofNat 0)]) (aa (Option.map (fun s=>(qAC,s)) (qAL EAu 33 (.ptr (some (sp,11))) (.agg (rL y)) S2)) (.tuple [],S3) (aa ((qIF q 51).call 79 [.ptr (some (d,0)),.int .i64 (.ofNat 5),.int .i64 (.ofNat 4),.int .i64 (.ofNat room)] S3) (.tuple (qG2 lp 0),S4) (aa (Option.map (fun s=>(qAC,s)) (qAL EAu 134 (.ptr (some (sp,9))) (.ptr (some (lp,0))) S4)) (.tuple [],S5) (aq (Q (.normal,xFr [(0,.ptr (some (d,0))),(1,.int .i64 (.ofNat k)),(9,.ptr (some (sp,0)))] 134,S5))))))))))))):=vq (by kernel_rfl)
theorem vcAb (q:CallT) (d k sp mp:Nat) (S S1 S2:ASt) (Q:qz2) :
 Vq ((TM EAu (qQz q) [] fl0 60).ex qNh none (seqL (qAg 7 c25)) (xFr [(0,.ptr (some (d,0))),(1,.int .i64 (.ofNat k)),(9,.ptr (some (sp,0)))] 134) S) (fun r=>Q (qAx [0,9] r)) (aa ((qIF q 58).call 80 (qRC d 4 k) S) (.tuple (qG2 mp 0),S1) (aa (Option.map (fun s=>(qAC,s)) (qAL EAu 73 (.ptr (some (sp,10))) (.ptr (some (mp,0))) S1)) (.tuple [],S2) (aq (Q (.normal,xFr [(0,.ptr (some (d,0))),(9,.ptr (some (sp,0)))] 134,S2))))):=vq (by kernel_rfl)
theorem vcAd (d sp:Nat) (c:Bool) (S:ASt) (Q:qz2) :
 Vq (qCl.ex qNh none (seqL (seqL (qAg 8 c25))) (xFr [(0,.ptr (some (d,0))),(9,.ptr (some (sp,0)))] 134) S) (fun r=>Q (qAx [0,9,98] r)) (al (qAs 4 sp 3) S (.bool c) (aq (Q (.normal,xFr [(0,.ptr (some (d,0))),(9,.ptr (some (sp,0))),(98,.bool c)] 134,S)))):=vq (by kernel_rfl)
theorem vcAi (sp:Nat) (S:ASt) (Q:qz2) :
 Vq (qCl.ex qNh none (qAg 9 c25) (xFr [(9,.ptr (some (sp,0)))] 134) S) (fun r=>Q (qAx [6,7] r)) (aq (Q (.ret,xFr [(6,.ptr (some (sp,0))),(7,.int .i64 (.ofNat 0))] 134,S))):=vq (by kernel_rfl)
end atu
namespace atu
open oo cd cd2 cd3 cd4 cd5 cd9 pu atc
theorem qBn:Env.Ok Tryz.prog EAu:=envEx_ok (xs:=[]) ⟨⟨Tryz.func6,Tryz.call6⟩,⟨Tryz.func25,Tryz.call25⟩,⟨Tryz.func26,Tryz.call26⟩,⟨Tryz.func27,Tryz.call27⟩,⟨Tryz.func30,Tryz.call30⟩,⟨Tryz.func31,Tryz.call31⟩,⟨Tryz.func32,Tryz.call32⟩,⟨Tryz.func35,Tryz.call35⟩,⟨Tryz.func78,Tryz.call78⟩,⟨Tryz.func79,Tryz.call79⟩,⟨Tryz.func80,Tryz.call80⟩,⟨Tryz.func81,Tryz.call81⟩,⟨Tryz.func82,Tryz.call82⟩,⟨Tryz.func83,Tryz.call83⟩,⟨Tryz.func84,Tryz.call84⟩,⟨Tryz.func90,Tryz.call90⟩,⟨Tryz.func120,Tryz.call120⟩,⟨Tryz.func140,Tryz.call140⟩,⟨Tryz.func141,Tryz.call141⟩,⟨Tryz.func142,Tryz.call142⟩,⟨Tryz.func143,Tryz.call143⟩,trivial⟩ trivial (by kernel_rfl)
def qGR (k s:Nat):AO:=.cells [.int .i64 (.ofNat k),.int .u64 (.ofNat s)] true
section
variable {S:ASt} {k s j mp r:Nat}
theorem qTO (h:S.h.get mp=some (qGR k s)):qAQ EAu 3 (.ptr (some (mp,0))) S=some (.int .i64 (.ofNat k),S):=qAZ (by kernel_rfl) h rfl
theorem q0v (h:S.h.get mp=some (qGR k s)):qAQ EAu 24 (.ptr (some (mp,1))) S=some (.int .u64 (.ofNat s),S):=qAZ (by kernel_rfl) h rfl
theorem mst1 (h:S.h.get mp=some (qGR k s)) (v:Nat):Option.map (fun s=>(qAC,s)) (qAL EAu 24 (.ptr (some (mp,1))) (.int .u64 (.ofNat v)) S)=some (.tuple [],S.put mp (qGR k v)):=qAz (qBk (j:=1) (by kernel_rfl) h (by show 1<2;decide) rfl)
theorem div_lt (hs:s<18446744073709551616):s / 2 ^ j<18446744073709551616:=Nat.lt_of_le_of_lt (Nat.div_le_self _ _) hs
structure Mkd (S S':ASt) (mp k s:Nat):Prop where
 at_:S'.h.get mp=some (qGR k s)
 old:∀i,i≠mp→S'.h.get i=S.h.get i
 tidy:Tidy S'
 next:S.next≤S'.next
theorem qWl (ht:Tidy S) (h:S.h.get mp=some (qGR k s)) (hr:S.h.get r=some (.cells [.int .i64 (.ofNat j)] true)) (hs:s<18446744073709551616) (h1:1≤k) (hk:k≤64) :
  ∃e S',qAE Tryz.prog 35 [.ptr (some (mp,0)),.slice (some (r,0)) 1 (.known 1)] S (.int .i64 (.ofNat e),S')∧Mkd S S' mp k (mrk k s j):=by
 have hl:=ht.lt h;have hld:qAQ EAu 3 (.ptr (some (r,0))) S=some (.int .i64 (.ofNat j),S):=qAZ (by kernel_rfl) hr rfl
 by_cases hj:j<k
 ·have h2j:2 ^ j<18446744073709551616:=Nat.pow_lt_pow_right (a:=2) (m:=j) (n:=64) (by decide) (by omega)
  by_cases hb:s / 2 ^ j % 2=1
  ·have e:mrk k s j=s:=if_neg (fun q=>by have:has s j=true:=decide_eq_true hb;rw[this] at q;cases q.2);rw[e];exact⟨0,S,qAE.of_tm qBn qAB (Eq.mp (vcMb k s j mp r S (fun r=>r=(.int .i64 (.ofNat 0),S))) ⟨qTO h,gT (by omega),hld,lF (Nat.zero_le _),qTO h,geF hj,geT (Nat.zero_le _),qTO h,lT hj,q0v h,qW7 (show j≤64 by omega),qUo (div_lt hs),eT hb,rfl⟩),h,fun i _=>rfl,ht,Nat.le_refl _⟩
  ·have e:mrk k s j=Nat.xor s (2 ^ j):=if_pos ⟨hj,decide_eq_false hb⟩;rw[e];obtain⟨Y,eY⟩:∃Y,Y=ASt.mk S.h (S.next+10):=⟨_,rfl⟩;have hY:Y.h.get mp=some (qGR k s):=by rw[eY];exact h
   subst eY;refine⟨1,(ASt.mk S.h (S.next+10)).put mp (qGR k (Nat.xor s (2 ^ j))),qAE.of_tm qBn qAB (Eq.mp (vcMa k s j mp r S ((ASt.mk S.h (S.next+10)).put mp (qGR k (Nat.xor s (2 ^ j)))) (fun r=>r=(.int .i64 (.ofNat 1),(ASt.mk S.h (S.next+10)).put mp (qGR k (Nat.xor s (2 ^ j)))))) ⟨qTO h,gT (by omega),hld,lF (Nat.zero_le _),qTO h,geF hj,geT (Nat.zero_le _),qTO h,lT hj,q0v h,qW7 (show j≤64 by omega),qUo (div_lt hs),eF hb,?_,qUk (by omega),q2K hs h2j,?_,trivial,rfl⟩),qAl,fun i hi=>?_,?_,?_⟩
   ·exact q0v hY
   ·exact mst1 hY _
   ·rw[qA3 hi]
   ·exact (ht.mk (Nat.le_add_right _ _)).put (by show mp<S.next+10;omega)
   ·rw[qBz];exact Nat.le_add_right _ _
 ·have e:mrk k s j=s:=if_neg (fun q=>hj q.1);rw[e];exact⟨0,S,qAE.of_tm qBn qAB (Eq.mp (vcMc k j mp r S (fun r=>r=(.int .i64 (.ofNat 0),S))) ⟨qTO h,gT (by omega),hld,lF (Nat.zero_le _),qTO h,geT (by omega),rfl⟩),h,fun i _=>rfl,ht,Nat.le_refl _⟩
end
section
variable {q:CallT} {H:List Nat→Nat→Nat} {S:ASt} {d k:Nat} {las:List (List Nat)} {es:List dsk.En}
theorem qT1 (hS:Sums q H) (hD:Dsk S d las es) (hn:las.length=9+k) (h1:1≤k) (h2:k≤64) (hs:mX H (nb las es 4)<18446744073709551616) (hm:mkM H (nb las es) k=true) :
  ∃S',qAE Tryz.prog 80 [.ptr (some (d,0)),.int .i64 (.ofNat 4),.int .i64 (.ofNat k)] S (.tuple [.ptr (some (S.next,0)),.int .i64 (.ofNat 0)],S')∧Ov S S' [(S.next,qGR k (mX H (nb las es 4)))]:=by
 unfold mkM at hm;rw[Bool.and_eq_true,Bool.not_eq_true'] at hm;have hfit:=(fits hs h2).1 hm.2;have hok:=orC_ok (qCw (d:=d) (las:=las) (es:=es)) (qG8 (qZc hS));obtain⟨S1,e1,o1⟩:=(Ov.nil hD.tidy).add (qGR k 0);obtain⟨S2,e2,o2⟩:=o1.add (.cells (bl []) true);obtain⟨S3,e3,o3⟩:=o2.stA (E:=EAu) (t:=54) (i:=1) (k:=S1.next) (o:=0) (z:=256) (vs:=bl (nb las es 4)) [] (bl []) [] (by kernel_rfl) (by kernel_rfl) rfl (qBI _) (qBI _);obtain⟨S4,e4,o4⟩:=o3.st1 (E:=EAu) (t:=24) (i:=0) (k:=S.next) (o:=1) (v:=.int .u64 (.ofNat (mX H (nb las es 4)))) [.int .i64 (.ofNat k),.int .u64 (.ofNat 0)] (by kernel_rfl);obtain⟨v,q1,q2⟩:=q2P (E:=EAu) (Y:=S3) (t:=24) (x:=.const (.int .u64 1)) (y:=.tmp 6) h2;obtain⟨u,q3,q4⟩:=q2M (E:=EAu) (Y:=S3) (t:=24) (x:=.tmp 51) (y:=.tmp 53) hs h2;have hb:=qF9 (hD.over o1);rw[hn] at hb;have h57:qLz H (nb las es 4)=.tuple [.int .u64 (.ofNat (mX H (nb las es 4))),.int .i64 (.ofNat 0)]:=by unfold qLz;rw[hm.1];rfl
 have c57:=qFb (k:=57) (out:=qLz H) (hD.bk 4) S3;rw[h57] at c57;refine⟨S4,qAE.of_tm qBn (qAG hok) (Eq.mp (vcLa _ d k (9+k) (mX H (nb las es 4)) u S.next S1.next v (nb las es 4) S S1 S2 S3 S4 (fun r=>r=(.tuple [.ptr (some (S.next,0)),.int .i64 (.ofNat 0)],S4))) ⟨lF h1,gF h2,by rw[e1];rfl,ca (qAo hb),eF (by omega),ca (qAo hb),geF (by omega),ca (qAo (qG6 (hD.over o1) (by omega))),o1.al e2,e3,o3.ldA (i:=1) (z:=256) (cs:=bl (nb las es 4)) (by kernel_rfl) (by kernel_rfl) qBx,ca (qAW (qBl (by decide) (by decide)) c57),o3.ld1 (i:=0) (cs:=[.int .i64 (.ofNat k),.int .u64 (.ofNat 0)]),q1,q2 _ _ _,q3,nF (q4.2 hfit),e4,rfl⟩),o4.only0 (by kernel_rfl)⟩
end
section
variable {q:CallT} {H:List Nat→Nat→Nat} {base d l m n c k s mp:Nat} {S0 S:ASt} {las:List (List Nat)} {es:List dsk.En}
theorem qPq (hS:Sums q H) (hv:Dv base S0 S d l m n c las es) (hc:c<100000) (hn:9≤n) (h:S.h.get mp=some (qGR k s)) (hs:s<18446744073709551616) (h1:1≤k) :
  ∃S' las',qAE Tryz.prog 84 [.ptr (some (mp,0)),.ptr (some (d,0)),.int .i64 (.ofNat 4)] S (.int .i64 (.ofNat 0),S')∧Dv base S0 S' d l m n (c+1) las' []∧S.next≤S'.next∧(∀k,k<S.next→k≠l→k≠m→S'.h.get k=S.h.get k)∧∀j,j<n→nb las' [] j=if j=4 then blV (qAm H (qFh s)) else nb las es j:=by
 have hB:byL (qAm H (qFh s)):=qGM hS.lt (qHj s);obtain⟨S1,es1,w1,hv1,n1,k1,b1⟩:=Dv.writeV (i:=4) (b:=qAm H (qFh s)) hv (by omega) (by omega) hB;obtain⟨S2,las2,ck,w2,hv2,n2,k2,b2,_,_⟩:=Dv.flushV hv1 (by omega) (by omega);have hb:=qKM (hv.dsk (by omega));rw[hv.len] at hb;have hok:=orC_ok (qAJ hb) (orC_ok (qAi (fun S=>qYb hS hs S)) (orC_ok (qAJ w1) (qAJ w2)));refine⟨S2,las2,qAE.of_tm qBn (qAG hok) (Eq.mp (vcSv _ d k n s mp (qAm H (qFh s)) S S1 S2 (fun r=>r=(.int .i64 (.ofNat 0),S2))) ⟨qTO h,gT (by omega),ca (qAo qA6),eF (by omega),ca (qAo qA6),geF (by omega),q0v h,ca (qAW (qDG (by decide)) (qAo (qAc ..))),ca (qAW (qDG (by decide)) (qAW (qA8 (by decide)) (qAo qA6))),ca (qAW (qDG (by decide)) (qAW (qA8 (by decide)) (qAW (qDG (by decide)) qA6))),rfl⟩),hv2,by omega,fun i hi hl hm=>by rw[k2 i (by omega) hl hm,k1 i hi hm],fun j hj=>?_⟩;rw[b2 j hj,b1 j]
end
def qB7 (d room nu:Nat) (P:AV):AO:=.cells [.ptr (some (d,0)),.int .i64 (.ofNat 5),.int .i64 (.ofNat 4),.int .i64 (.ofNat room),.int .u64 (.ofNat nu),P] true
def stL (d k:Nat) (x:Nat→Nat) (c:Bool) (L M:AV) (y:Nat→Nat):List AV:=.ptr (some (d,0))::.int .i64 (.ofNat k)::(sL x c++(L::M::(rL y++[.int .i64 (.ofNat 0)])))
def stO (d k:Nat) (x:Nat→Nat) (c:Bool) (L M:AV) (y:Nat→Nat):AO:=.cells (stL d k x c L M y) true
theorem apU:qSZ EAu 69 69=some (1,8):=by kernel_rfl
section
variable {S:ASt} {d k room nu lp sp mp:Nat} {P L M:AV} {x y:Nat→Nat} {c:Bool}
theorem q20 (h:S.h.get lp=some (qB7 d room nu P)):qAQ EAu 24 (.ptr (some (lp,4))) S=some (.int .u64 (.ofNat nu),S):=qAZ (by kernel_rfl) h rfl
theorem qZi (h:S.h.get lp=some (qB7 d room nu P)):qAQ EAu 69 (.ptr (some (lp,5))) S=some (P,S):=qAZ (by kernel_rfl) h rfl
theorem lst4 (h:S.h.get lp=some (qB7 d room nu P)) (v:Nat):Option.map (fun s=>(qAC,s)) (qAL EAu 24 (.ptr (some (lp,4))) (.int .u64 (.ofNat v)) S)=some (.tuple [],S.put lp (qB7 d room v P)):=qAz (qBk (j:=4) (by kernel_rfl) h (by show 4<6;decide) rfl)
theorem lst5 (h:S.h.get lp=some (qB7 d room nu P)) {P2:AV} (hc:P2.isCell=true):Option.map (fun s=>(qAC,s)) (qAL EAu 69 (.ptr (some (lp,5))) P2 S)=some (.tuple [],S.put lp (qB7 d room nu P2)):=qAz (qBk (j:=5) (by kernel_rfl) h (by show 5<6;decide) hc)
theorem qZC (h:S.h.get sp=some (stO d k x c L M y)):qAQ EAu 134 (.ptr (some (sp,9))) S=some (L,S):=qAZ (by kernel_rfl) h rfl
theorem q2C (h:S.h.get sp=some (stO d k x c L M y)):qAQ EAu 73 (.ptr (some (sp,10))) S=some (M,S):=qAZ (by kernel_rfl) h rfl
theorem q2D (h:S.h.get sp=some (stO d k x c L M y)):qAQ EAu 4 (.ptr (some (sp,3))) S=some (.bool c,S):=qAZ (by kernel_rfl) h rfl
theorem q2B (h:S.h.get sp=some (stO d k x c L M y)):qAQ EAu 29 (.ptr (some (sp,2))) S=some (.agg (sL x c),S):=qAp (z:=7) (by kernel_rfl) h (by kernel_rfl)
theorem q2A (h:S.h.get sp=some (stO d k x c L M y)):qAQ EAu 33 (.ptr (some (sp,11))) S=some (.agg (rL y),S):=qAp (z:=19) (by kernel_rfl) h (by kernel_rfl)
end
theorem qH4 {L:List Nat} {d room nu:Nat} {P:AV}:AO.cells (qBf L) true≠qB7 d room nu P:=fun h=>by
 unfold qB7 at h;injection h with h;cases L with
 | nil=>cases h
 | cons a L =>
  have:=congrArg (fun l:List AV=>l.head?) h;cases this
theorem qD9.cell {base:Nat} {X:ASt} {P:AV} {L:List Nat} (h:qD9 base X P L):P.isCell=true:=by
 rcases h with⟨rfl,_⟩ | ⟨r,_,rfl,_,_⟩<;>rfl
theorem qD9.put {base lp d room nu:Nat} {X:ASt} {P P0:AV} {L:List Nat} {a:AO} (h:qD9 base X P L) (hl:X.h.get lp=some (qB7 d room nu P0)):qD9 base (X.put lp a) P L:=by
 rcases h with h | ⟨r,h0,h1,h2,h3⟩
 ·exact .inl h
 ·exact .inr ⟨r,h0,h1,h2,by rw[qA3 (qAu h3 hl qH4)];exact h3⟩
theorem qD9.refs {base:Nat} {S X:ASt} {P:AV} {L:List Nat} (h:qD9 base X P L) (hb:S.next≤base):qCH (Go.Ax.Good S) P:=by
 rcases h with⟨rfl,_⟩ | ⟨r,_,rfl,h2,_⟩
 ·trivial
 ·exact .inl (Nat.le_trans hb h2)
theorem qZt {E:Env} (hE:qSZ E 69 69=some (1,8)) {base:Nat} {X:ASt} {P:AV} {L:List Nat} (hot:qD9 base X P L) (ht:Tidy X) (hb:base≤X.next) (e:Nat) (hl:L.length<1000) :
  ∃P' X',qAU E .append [69,69] [P,.slice (some (X.next,0)) 1 (.known 1)] (X.add (.cells [.int .i64 (.ofNat e)] true))=some (P',X')∧qD9 base X' P' (L++[e])∧Tidy X'∧X.next≤X'.next∧∀k,k<X.next→(k<base∨∃d room nu P0,X.h.get k=some (qB7 d room nu P0))→X'.h.get k=X.h.get k:=by
 obtain⟨S1,e1⟩:∃Y,Y=X.add (.cells [.int .i64 (.ofNat e)] true):=⟨_,rfl⟩;have n1:S1.next=X.next+1:=by rw[e1];rfl
 have t1:Tidy S1:=by rw[e1];exact ht.add
 have g1:S1.h.get X.next=some (.cells [.int .i64 (.ofNat e)] true):=by rw[e1];exact qBM
 have o1:∀k,k<X.next→S1.h.get k=X.h.get k:=fun k hk=>by rw[e1,qAj (by omega)]
 have hf:qAw S1 1 1 (.slice (some (X.next,0)) 1 (.known 1))=some [.int .i64 (.ofNat e)]:=qCv g1 (by kernel_rfl);rw[←e1];rcases hot with⟨rfl,rfl⟩ | ⟨r,h0,rfl,hr,hg⟩
 ·refine⟨_,_,qGA hE rfl hf (by decide) (by decide) (by decide),.inr ⟨S1.next,Nat.zero_lt_succ _,rfl,by omega,qBM⟩,t1.add,?_,fun k hk _=>?_⟩
  ·show X.next≤S1.next+1;omega
  ·show (S1.add _).h.get k=_;rw[qAj (by omega),o1 k (by omega)]
 ·have hrX:=ht.lt hg;refine⟨_,_,qFQ (l:=L.length) hE rfl hf (by rw[o1 r hrX];exact hg) (by rw[qBy,Nat.mul_one]) (by decide) (by decide) (by omega) (by omega),.inr ⟨S1.next,by rw[List.length_append];exact Nat.add_pos_left h0 _,by rw[List.length_append];rfl,by omega,?_⟩,?_,?_,fun k hk hq=>?_⟩
  ·show ((S1.put r .dead).add _).h.get S1.next=_;rw[qDS];exact qBM (S:=S1.put r .dead)
  ·exact (t1.put (by omega)).add
  ·show X.next≤S1.next+1;omega
  ·have hkr:k≠r:=by
    rcases hq with hq | ⟨d,room,nu,P0,hq⟩
    ·omega
    ·exact fun q=>qAu hg hq qH4 q.symm
   show ((S1.put r .dead).add _).h.get k=_;rw[qAj (by rw[qBz];omega),qA3 hkr,o1 k hk]
section
variable {S:ASt} {d k room nu lp sp mp:Nat} {P M:AV} {x y:Nat→Nat} {c:Bool} {L:List Nat} {base:Nat}
theorem q08 (ht:Tidy S) {r:Nat} (h0:0<L.length) (hl:L.length<1000) (hg:S.h.get r=some (.cells (qBf L) true)) :
  qAU EAu .append [69,69] [.slice (some (S.next,0)) 0 (.known 0),.slice (some (r,0)) L.length (.rest 1)] (S.add (.cells [] true))=some (.slice (some (S.next+1,0)) L.length (.rest 1),(S.add (.cells [] true)).add (.cells (qBf L) true)):=by
 have hr:=ht.lt hg;have hf:qAw (S.add (.cells [] true)) 1 L.length (.slice (some (r,0)) L.length (.rest 1))=some (qBf L):=qCv (by rw[qAj (by omega)];exact hg) (by have:=qHX (X:=qBf L);rw[qBy] at this;rw[Nat.mul_one];exact this);exact qD7 (k:=S.next) (o:=0) apU rfl hf qBM h0 (by omega) (by omega)
theorem qZr (ht:Tidy S) (hs:S.h.get sp=some (stO d k x c (.ptr (some (lp,0))) M y)) (hl:S.h.get lp=some (qB7 d room nu P)) (hP:qD9 base S P L) (hn:L.length<1000) :
  ∃P2 S',qAE Tryz.prog 30 [.ptr (some (sp,0))] S (P2,S')∧qD9 S.next S' P2 L∧Tidy S'∧S.next≤S'.next∧∀k,k<S.next→S'.h.get k=S.h.get k:=by
 rcases hP with⟨rfl,rfl⟩ | ⟨r,h0,rfl,h2,h3⟩
 ·exact⟨_,S,qAE.of_tm qBn qAB (Eq.mp (vcGa sp lp S (fun r=>r=(.slice none 0 (.known 0),S))) ⟨qZC hs,qZi hl,rfl⟩),.inl ⟨rfl,rfl⟩,ht,Nat.le_refl _,fun _ _=>rfl⟩
 ·obtain⟨S2,e2⟩:∃Y,Y=(S.add (.cells [] true)).add (.cells (qBf L) true):=⟨_,rfl⟩;refine⟨_,S2,qAE.of_tm qBn qAB (Eq.mp (vcGb sp lp r L.length (.rest 1) (.slice (some (S.next,0)) 0 (.known 0)) (.slice (some (S.next+1,0)) L.length (.rest 1)) S (S.add (.cells [] true)) S2 (fun r=>r=(.slice (some (S.next+1,0)) L.length (.rest 1),S2))) ⟨qZC hs,qZi hl,by kernel_rfl,by rw[e2];exact q08 ht h0 hn h3,rfl⟩),.inr ⟨S.next+1,h0,rfl,by omega,by rw[e2];exact qBM (S:=S.add (.cells [] true))⟩,by rw[e2];exact ht.add.add,by rw[e2];show S.next≤S.next+1+1;omega,fun i hi=>?_⟩;rw[e2,qAj (by rw[qBe];omega),qAj (by omega)]
theorem qUt (hs:S.h.get sp=some (stO d k x c P (.ptr (some (mp,0))) y)):qAE Tryz.prog 31 [.ptr (some (sp,0))] S (.ptr (some (mp,0)),S) :=
 qAE.of_tm qBn qAB (Eq.mp (vcMp sp mp S (fun r=>r=(.ptr (some (mp,0)),S))) ⟨q2C hs,rfl⟩)
theorem qSl (ht:Tidy S) (hs:S.h.get sp=some (stO d k x c P M y)):qAE Tryz.prog 26 [.ptr (some (sp,0))] S (.agg (sL x c),S):=by
 obtain⟨S1,e1,o1⟩:=(Ov.nil ht).add (.cells (sL (fun _=>0) false) true);obtain⟨S2,e2,o2⟩:=o1.stA (E:=EAu) (t:=29) (i:=0) (k:=S.next) (o:=0) (z:=7) (vs:=sL x c) [] (sL (fun _=>0) false) [] (by kernel_rfl) (by kernel_rfl) rfl rfl rfl;refine exD Tryz.f26 c26 10 [2] qBn qAB (qEP (fun v h=>qSv _ _ v h _)) (Eq.mp (vcSu sp S.next x c S S1 S2 (Left EAu Tryz.f26 10 S (.agg (sL x c)))) ⟨(Ov.nil ht).al e1,q2B (by rw[o1.old sp (ht.lt hs)];exact hs),e2,?_⟩);exact Left.of (rs:=[.cell 2 29]) o2 rfl (by kernel_rfl) rfl (qAb (x:=.ptr (some (S.next,0))) (by kernel_rfl) (o2.ldA (i:=0) (z:=7) (o:=0) (k:=S.next) (cs:=sL x c)) qA9) rfl
theorem qSi (ht:Tidy S) (hs:S.h.get sp=some (stO d k x c P M y)):qAE Tryz.prog 27 [.ptr (some (sp,0))] S (.agg (rL y),S):=by
 obtain⟨S1,e1,o1⟩:=(Ov.nil ht).add (.cells (rL (fun _=>0)) true);obtain⟨S2,e2,o2⟩:=o1.stA (E:=EAu) (t:=33) (i:=0) (k:=S.next) (o:=0) (z:=19) (vs:=rL y) [] (rL (fun _=>0)) [] (by kernel_rfl) (by kernel_rfl) rfl rfl rfl;refine exD Tryz.f27 c27 10 [2] qBn qAB (qEP (fun v h=>qTD _ v h _)) (Eq.mp (q1S sp S.next y S S1 S2 (Left EAu Tryz.f27 10 S (.agg (rL y)))) ⟨(Ov.nil ht).al e1,q2A (by rw[o1.old sp (ht.lt hs)];exact hs),e2,?_⟩);exact Left.of (rs:=[.cell 2 33]) o2 rfl (by kernel_rfl) rfl (qAb (x:=.ptr (some (S.next,0))) (by kernel_rfl) (o2.ldA (i:=0) (z:=19) (o:=0) (k:=S.next) (cs:=rL y)) qA9) rfl
end
section
variable {S:ASt} {d k:Nat} {las:List (List Nat)} {es:List dsk.En}
theorem qWF (hD:Dsk S d las es) (hn:las.length=9+k) (h1:1≤k) (h2:k≤64):qAE Tryz.prog 78 [.ptr (some (d,0)),.int .i64 (.ofNat k)] S (.int .i64 (.ofNat 0),S):=by
 have hb:=qF9 hD;rw[hn] at hb;exact qAE.of_tm qBn (qAG (qCw (d:=d) (las:=las) (es:=es))) (Eq.mp (vcSy _ d k S (fun r=>r=(.int .i64 (.ofNat 0),S))) ⟨ca hb,eF (by omega),lF h1,gF h2,qDt (by omega),eF (by omega),ca hb,lF h1,gF h2,qDt (by omega),nF rfl,rfl⟩)
theorem qWs (hD:Dsk S d las es) (hn:las.length=9+k) (h2:k≤64):qAE Tryz.prog 140 [.ptr (some (d,0)),.int .i64 (.ofNat 5),.int .i64 (.ofNat 4)] S (.int .i64 (.ofNat 0),S):=by
 have hb:=qF9 hD;rw[hn] at hb;exact qAE.of_tm qBn (qAG (qCw (d:=d) (las:=las) (es:=es))) (Eq.mp (vcLy _ d (9+k) (5+k) S (fun r=>r=(.int .i64 (.ofNat 0),S))) ⟨ca hb,eF (by omega),ca hb,qW6 (by omega),gF (by omega),rfl⟩)
end
end atu
end Go.Proofs.YtiafochainjglaaGreatDoor.drp
