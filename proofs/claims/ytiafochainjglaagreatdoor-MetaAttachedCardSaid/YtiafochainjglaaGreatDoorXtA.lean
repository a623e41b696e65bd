/-
  OWN WORK, A PART: an abstract machine for the program's text that the kernel can run, and the proof that it is sound: what it answers is what the program answers; contracts of functions by it. No condition.
-/
import Derived.Test.YtiafochainjglaaGreatDoorMtH
import Derived.Test.YtiafochainjglaaGreatDoorMtA
import Derived.KernelRfl
import Derived.Test.YtiafochainjglaaGreatDoorMtE
section
open Go Go.Ax Go.Proofs
namespace Go.Proofs.YtiafochainjglaaGreatDoor.drp.atc
set_option linter.unusedVariables false
def hotL (ho room:Nat):Nat→List Nat
 | 0=>[]
 | x+1=>if ho / 2 ^ x % 2=1∧(hotL ho room x).length<room then hotL ho room x++[x] else hotL ho room x
theorem hotL_len (ho room:Nat):∀x,(hotL ho room x).length≤room∧(hotL ho room x).length≤x
 | 0=>⟨Nat.zero_le _,Nat.zero_le _⟩
 | x+1=>by
  have ih:=hotL_len ho room x
  unfold hotL
  split
  ·rename_i h
   rw[List.length_append,List.length_singleton]
   exact⟨by omega,by omega⟩
  ·exact⟨ih.1,by omega⟩
theorem hotL_lt (ho room:Nat):∀x,∀e,e∈hotL ho room x→e<x
 | 0,e,h=>by cases h
 | x+1,e,h=>by
  have ih:=hotL_lt ho room x e
  unfold hotL at h
  split at h
  ·rcases List.mem_append.1 h with h | h
   ·have:=ih h;omega
   ·rw[List.mem_singleton.1 h];omega
  ·have:=ih h;omega
theorem hotL_full {ho room x:Nat} (h:¬(hotL ho room x).length<room):∀j,hotL ho room (x+j)=hotL ho room x
 | 0=>rfl
 | j+1=>by
  have ih:=hotL_full h j
  show (if ho / 2 ^ (x+j) % 2=1∧(hotL ho room (x+j)).length<room then hotL ho room (x+j)++[x+j] else hotL ho room (x+j))=_
  rw[ih,if_neg (fun q=>h q.2)]
end Go.Proofs.YtiafochainjglaaGreatDoor.drp.atc
end

section
open Go Go.Ax Go.Proofs
namespace Go.Proofs.YtiafochainjglaaGreatDoor.drp.atc
set_option linter.unusedVariables false
open oo
noncomputable def fnsAt:List (Nat×Func):=[(29,Tryz.f29),(28,Tryz.f28)]
noncomputable def EAt:Env:=envEx Tryz.prog [0,3,4,5,24,34,36,37,69] fnsAt []
noncomputable def c29:Code:=Option.getD Tryz.f29.body .skip
noncomputable def L29:Code:=lopB (blkB (seqR (seqL (dropC 1 c29))))
noncomputable def c28:Code:=Option.getD Tryz.f28.body .skip
noncomputable def L28:Code:=lopB (blkB (seqR (seqL (dropC 1 c28))))
noncomputable abbrev kAtC_2:=TM EAt noSum [] fl0 60
noncomputable def tSa (r r2 n:Nat) (C C2:Cap) (S:ASt):Tr (Exit×AFr×ASt):=kAtC_2.ex ⟨[7,9,10,13,14,16,19,20,23,24,25,4094],[],[],[]⟩ none (preC 1 c29) {m:=putArgs [.slice (some (r,0)) n C,.slice (some (r2,0)) n C2] 0 .e,n:=26,defs:=[]} S
noncomputable def tSb (r r2 n:Nat) (C C2:Cap) (S:ASt):Tr (Exit×AFr×ASt):=kAtC_2.ex ⟨[],[],[],[]⟩ none (seqL (seqL (dropC 1 c29))) (xFr [(0,.slice (some (r,0)) n C),(1,.slice (some (r2,0)) n C2)] 26) S
noncomputable def tSc (r r2 n i e:Nat) (C C2:Cap) (S:ASt):Tr (Exit×AFr×ASt):=kAtC_2.ex ⟨[7,9,10,13,14,16,19,20,23,24,25,4094],[],[],[]⟩ none L29 (xFr [(0,.slice (some (r,0)) n C),(1,.slice (some (r2,0)) n C2),(5,.int .i64 (.ofNat i))] 26) S
noncomputable def tSd (r r2 n i:Nat) (C C2:Cap) (S:ASt):Tr (Exit×AFr×ASt):=kAtC_2.ex ⟨[7,9,10,13,14,16,19,20,23,24,25,4094],[],[],[]⟩ none L29 (xFr [(0,.slice (some (r,0)) n C),(1,.slice (some (r2,0)) n C2),(5,.int .i64 (.ofNat i))] 26) S
noncomputable def tSe (A:AV) (S:ASt):Tr (Exit×AFr×ASt):=kAtC_2.ex ⟨[],[],[],[]⟩ none (dropC 2 c29) (xFr [(0,A)] 26) S
noncomputable def tSn (S:ASt):Tr (AV×ASt):=(TM EAt noSum [(29,⟨[7,9,10,13,14,16,19,20,23,24,25,4094],[],[],[]⟩)] fl0 60).call 29 [.slice none 0 (.known 0),.slice none 0 (.known 0)] S
noncomputable def tOa (ho room:Nat) (S:ASt):Tr (Exit×AFr×ASt):=kAtC_2.ex ⟨[8,11,13,18,20,21,22,23,26,27,16,4094],[],[],[]⟩ none (preC 1 c28) {m:=putArgs [.int .u16 (.ofNat ho),.int .i64 (.ofNat room)] 0 .e,n:=29,defs:=[]} S
noncomputable def tOb (ho room:Nat) (P:AV) (S:ASt):Tr (Exit×AFr×ASt):=kAtC_2.ex ⟨[],[],[],[]⟩ none (seqL (seqL (dropC 1 c28))) (xFr [(0,.int .u16 (.ofNat ho)),(1,.int .i64 (.ofNat room)),(5,P)] 29) S
noncomputable abbrev kAtC_1 (a b:Nat) (c:AV) (d:Nat):=xFr [(0,.int .u16 (.ofNat a)),(1,.int .i64 (.ofNat b)),(5,c),(6,.int .i64 (.ofNat d))] 29
noncomputable def tOc (q:CallT) (ho room x n p b:Nat) (P P2 W:AV) (S S1 S2:ASt):Tr (Exit×AFr×ASt):=(TM EAt (onlyC [85] q) [] fl0 60).ex ⟨[8,11,13,18,20,21,22,23,26,27,16,4094],[],[],[]⟩ none L28 (kAtC_1 ho room P x) S
noncomputable def tOd (q:CallT) (ho room x n p b e:Nat) (P:AV) (S:ASt):Tr (Exit×AFr×ASt):=(TM EAt (onlyC [85] q) [] fl0 60).ex ⟨[8,11,13,18,20,21,22,23,26,27,16,4094],[],[],[]⟩ none L28 (kAtC_1 ho room P x) S
noncomputable def tOx (ho room x:Nat) (P:AV) (S:ASt):Tr (Exit×AFr×ASt):=kAtC_2.ex ⟨[8,11,13,18,20,21,22,23,26,27,16,4094],[],[],[]⟩ none L28 (kAtC_1 ho room P x) S
noncomputable def tOy (ho room x n:Nat) (P:AV) (S:ASt):Tr (Exit×AFr×ASt):=kAtC_2.ex ⟨[8,11,13,18,20,21,22,23,26,27,16,4094],[],[],[]⟩ none L28 (kAtC_1 ho room P x) S
noncomputable def tOe (P:AV) (S:ASt):Tr (Exit×AFr×ASt):=kAtC_2.ex ⟨[],[],[],[]⟩ none (dropC 2 c28) (xFr [(5,P)] 29) S
noncomputable abbrev kAtC_0 (a:Nat):=AV.int .i64 (.ofNat a)
noncomputable abbrev kAtC_5 (a b:Nat) (c:Cap):=aBuiltinM EAt Builtin.len [69] [AV.slice (some (a,0)) b c]
theorem vcSa (r r2 n:Nat) (C C2:Cap) (S:ASt) (Q:Exit×AFr×ASt→Prop) :
 Vq (tSa r r2 n C C2 S) (fun r=>Q (rawR [0,1] r)) (al (kAtC_5 r n C) S (kAtC_0 n) (al (kAtC_5 r2 n C2) S (kAtC_0 n) (as_ S (aBin EAt .neq 3 (.tmp 7) (.tmp 9) (kAtC_0 n) (kAtC_0 n)) (.bool false) (aq (Q (.normal,xFr [(0,.slice (some (r,0)) n C),(1,.slice (some (r2,0)) n C2)] 26,S)))))):=vq (by kernel_rfl)
theorem vcSb (r r2 n:Nat) (C C2:Cap) (S:ASt) (Q:Exit×AFr×ASt→Prop) :
 Vq (tSb r r2 n C C2 S) (fun r=>Q (rawR [0,1,5] r)) (aq (Q (.normal,xFr [(0,.slice (some (r,0)) n C),(1,.slice (some (r2,0)) n C2),(5,.int .i64 (.ofNat 0))] 26,S))):=vq (by kernel_rfl)
noncomputable abbrev kAtC_3:=Operand.const (Value.int .i64 1)
theorem vcSc (r r2 n i e:Nat) (C C2:Cap) (S:ASt) (Q:Exit×AFr×ASt→Prop) :
 Vq (tSc r r2 n i e C C2 S) (fun r=>Q (rawR [0,1,5] r)) (al (kAtC_5 r n C) S (kAtC_0 n) (as_ S (aBin EAt .lss 3 (.tmp 11) (.tmp 13) (kAtC_0 i) (kAtC_0 n)) (.bool true) (as_ (ASt.mk S.h (S.next+9)) (aIndexAddr EAt 69 (.slice (some (r,0)) n C) (kAtC_0 i)) (.ptr (some (r,i*1))) (al (aLoad EAt 3 (.ptr (some (r,i*1)))) (ASt.mk S.h (S.next+9)) (kAtC_0 e) (as_ (ASt.mk S.h (S.next+9)) (aIndexAddr EAt 69 (.slice (some (r2,0)) n C2) (kAtC_0 i)) (.ptr (some (r2,i*1))) (al (aLoad EAt 3 (.ptr (some (r2,i*1)))) (ASt.mk S.h (S.next+9)) (kAtC_0 e) (as_ (ASt.mk S.h (S.next+9)) (aBin EAt .neq 3 (.tmp 20) (.tmp 24) (kAtC_0 e) (kAtC_0 e)) (.bool false) (as_ (ASt.mk S.h (S.next+9)) (aBin EAt .add 3 (.tmp 15) kAtC_3 (kAtC_0 i) (kAtC_0 1)) (.int .i64 (.ofNat (i+1))) (aq (Q (.normal,xFr [(0,.slice (some (r,0)) n C),(1,.slice (some (r2,0)) n C2),(5,.int .i64 (.ofNat (i+1)))] 26,ASt.mk S.h (S.next+9)))))))))))):=vq (by kernel_rfl)
theorem vcSd (r r2 n i:Nat) (C C2:Cap) (S:ASt) (Q:Exit×AFr×ASt→Prop) :
 Vq (tSd r r2 n i C C2 S) (fun r=>Q (rawR [0] r)) (al (kAtC_5 r n C) S (kAtC_0 n) (as_ S (aBin EAt .lss 3 (.tmp 11) (.tmp 13) (kAtC_0 i) (kAtC_0 n)) (.bool false) (aq (Q (.exit 0,xFr [(0,.slice (some (r,0)) n C)] 26,S))))):=vq (by kernel_rfl)
theorem vcSe (A:AV) (S:ASt) (Q:Exit×AFr×ASt→Prop) :
 Vq (tSe A S) (fun r=>Q (rawR [4] r)) (aq (Q (.ret,xFr [(4,.bool true)] 26,S))):=vq (by kernel_rfl)
noncomputable abbrev kAtC_4:=aBuiltinM EAt Builtin.len [69] [AV.slice none 0 (.known 0)]
theorem vcSn (S:ASt) (Q:AV×ASt→Prop) :
 Vq (tSn S) Q (al kAtC_4 S (kAtC_0 0) (al kAtC_4 S (kAtC_0 0) (as_ S (aBin EAt .neq 3 (.tmp 7) (.tmp 9) (kAtC_0 0) (kAtC_0 0)) (.bool false) (al kAtC_4 S (kAtC_0 0) (as_ S (aBin EAt .lss 3 (.tmp 11) (.tmp 13) (kAtC_0 0) (kAtC_0 0)) (.bool false) (aq (Q (.bool true,S)))))))):=vq (by kernel_rfl)
theorem vcOa (ho room:Nat) (S:ASt) (Q:Exit×AFr×ASt→Prop) :
 Vq (tOa ho room S) (fun r=>Q (rawR [0,1,5] r)) (aq (Q (.normal,xFr [(0,.int .u16 (.ofNat ho)),(1,.int .i64 (.ofNat room)),(5,.slice none 0 (.known 0))] 29,S))):=vq (by kernel_rfl)
theorem vcOb (ho room:Nat) (P:AV) (S:ASt) (Q:Exit×AFr×ASt→Prop) :
 Vq (tOb ho room P S) (fun r=>Q (rawR [0,1,5,6] r)) (aq (Q (.normal,xFr [(0,.int .u16 (.ofNat ho)),(1,.int .i64 (.ofNat room)),(5,P),(6,.int .i64 (.ofNat 0))] 29,S))):=vq (by kernel_rfl)
noncomputable abbrev kAtC_6:=Operand.const (Value.int .i64 16)
theorem vcOc (q:CallT) (ho room x n p b:Nat) (P P2 W:AV) (S S1 S2:ASt) (Q:Exit×AFr×ASt→Prop) :
 Vq (tOc q ho room x n p b P P2 W S S1 S2) (fun r=>Q (rawR [0,1,5,6] r)) (as_ S (aBin EAt .lss 3 (.tmp 7) kAtC_6 (kAtC_0 x) (kAtC_0 16)) (.bool true) (al (aBuiltinM EAt .len [69] [P]) S (kAtC_0 n) (as_ S (aBin EAt .lss 3 (.tmp 11) (.tmp 12) (kAtC_0 n) (kAtC_0 room)) (.bool true) (al (aConvert EAt 34 3 (.int .u16 (.ofNat ho))) S (kAtC_0 ho) (al ((M EAt (drawA EAt) (onlyC [85] q) 55).call 85 [.int .i64 (.ofNat x)]) S (kAtC_0 p) (as_ S (aBin EAt .quo 3 (.tmp 18) (.tmp 20) (kAtC_0 ho) (kAtC_0 p)) (kAtC_0 b) (as_ S (aBin EAt .rem 3 (.tmp 21) (.const (.int .i64 2)) (kAtC_0 b) (kAtC_0 2)) (kAtC_0 1) (as_ S (aBin EAt .eql 3 (.tmp 22) kAtC_3 (kAtC_0 1) (kAtC_0 1)) (.bool true) (aa (aOp EAt (M EAt (drawA EAt) (onlyC [85] q) 54).call (M EAt (drawA EAt) (onlyC [85] q) 54).round (Oper.mk (some 26) (Op.buildSlice 69 1 #[(0,.tmp 25)]) 69 "ref.go:97" #[Edge.mk 1 Ground.data] none) (xFr [(25,.int .i64 (.ofNat x))] 29) S) (W,S1) (aa (aBuiltinM EAt .append [69,69] [P,W] S1) (P2,S2) (as_ S2 (aBin EAt .add 3 (.tmp 15) kAtC_3 (kAtC_0 x) (kAtC_0 1)) (.int .i64 (.ofNat (x+1))) (aq (Q (.normal,xFr [(0,.int .u16 (.ofNat ho)),(1,.int .i64 (.ofNat room)),(5,P2),(6,.int .i64 (.ofNat (x+1)))] 29,S2)))))))))))))):=vq (by kernel_rfl)
theorem vcOd (q:CallT) (ho room x n p b e:Nat) (P:AV) (S:ASt) (Q:Exit×AFr×ASt→Prop) :
 Vq (tOd q ho room x n p b e P S) (fun r=>Q (rawR [0,1,5,6] r)) (as_ S (aBin EAt .lss 3 (.tmp 7) kAtC_6 (kAtC_0 x) (kAtC_0 16)) (.bool true) (al (aBuiltinM EAt .len [69] [P]) S (kAtC_0 n) (as_ S (aBin EAt .lss 3 (.tmp 11) (.tmp 12) (kAtC_0 n) (kAtC_0 room)) (.bool true) (al (aConvert EAt 34 3 (.int .u16 (.ofNat ho))) S (kAtC_0 ho) (al ((M EAt (drawA EAt) (onlyC [85] q) 55).call 85 [.int .i64 (.ofNat x)]) S (kAtC_0 p) (as_ S (aBin EAt .quo 3 (.tmp 18) (.tmp 20) (kAtC_0 ho) (kAtC_0 p)) (kAtC_0 b) (as_ S (aBin EAt .rem 3 (.tmp 21) (.const (.int .i64 2)) (kAtC_0 b) (kAtC_0 2)) (kAtC_0 e) (as_ S (aBin EAt .eql 3 (.tmp 22) kAtC_3 (kAtC_0 e) (kAtC_0 1)) (.bool false) (as_ S (aBin EAt .add 3 (.tmp 15) kAtC_3 (kAtC_0 x) (kAtC_0 1)) (.int .i64 (.ofNat (x+1))) (aq (Q (.normal,xFr [(0,.int .u16 (.ofNat ho)),(1,.int .i64 (.ofNat room)),(5,P),(6,.int .i64 (.ofNat (x+1)))] 29,S)))))))))))):=vq (by kernel_rfl)
theorem vcOx (ho room x:Nat) (P:AV) (S:ASt) (Q:Exit×AFr×ASt→Prop) :
 Vq (tOx ho room x P S) (fun r=>Q (rawR [5] r)) (as_ S (aBin EAt .lss 3 (.tmp 7) kAtC_6 (kAtC_0 x) (kAtC_0 16)) (.bool false) (aq (Q (.exit 0,xFr [(5,P)] 29,S)))):=vq (by kernel_rfl)
theorem vcOy (ho room x n:Nat) (P:AV) (S:ASt) (Q:Exit×AFr×ASt→Prop) :
 Vq (tOy ho room x n P S) (fun r=>Q (rawR [5] r)) (as_ S (aBin EAt .lss 3 (.tmp 7) kAtC_6 (kAtC_0 x) (kAtC_0 16)) (.bool true) (al (aBuiltinM EAt .len [69] [P]) S (kAtC_0 n) (as_ S (aBin EAt .lss 3 (.tmp 11) (.tmp 12) (kAtC_0 n) (kAtC_0 room)) (.bool false) (aq (Q (.exit 0,xFr [(5,P)] 29,S)))))):=vq (by kernel_rfl)
theorem vcOe (P:AV) (S:ASt) (Q:Exit×AFr×ASt→Prop) :
 Vq (tOe P S) (fun r=>Q (rawR [4] r)) (aq (Q (.ret,xFr [(4,P)] 29,S))):=vq (by kernel_rfl)
end Go.Proofs.YtiafochainjglaaGreatDoor.drp.atc
end

section
open Go Go.Ax Go.Proofs
namespace Go.Proofs.YtiafochainjglaaGreatDoor.drp.atc
set_option linter.unusedVariables false
open oo cd cd2 cd3 cd4 cd5 cd9 my
theorem EAtok:Env.Ok Tryz.prog EAt:=envEx_ok (xs:=[]) ⟨⟨Tryz.func29,Tryz.call29⟩,⟨Tryz.func28,Tryz.call28⟩,trivial⟩ trivial (by kernel_rfl)
section
variable {Y:ASt} {a b:Nat} {x y:Operand}
theorem lssA:still Y (aBin EAt .lss 3 x y (.int .i64 (.ofNat a)) (.int .i64 (.ofNat b)))=some (.bool (decide (a<b)),Y):=by
 have e:aBin EAt .lss 3 x y (.int .i64 (.ofNat a)) (.int .i64 (.ofNat b))=some (.bool (ltF (.ofNat a) (.ofNat b))):=by kernel_rfl
 rw[ltF_nn] at e
 exact still_of e
theorem neqA:still Y (aBin EAt .neq 3 x y (.int .i64 (.ofNat a)) (.int .i64 (.ofNat a)))=some (.bool false,Y):=by
 have e:aBin EAt .neq 3 x y (.int .i64 (.ofNat a)) (.int .i64 (.ofNat a))=some (.bool (!eqF (.ofNat a) (.ofNat a))):=by kernel_rfl
 rw[eqF_eq,beq_self_eq_true] at e
 exact still_of e
theorem addA (h:a+b<1000000):still Y (aBin EAt .add 3 x y (.int .i64 (.ofNat a)) (.int .i64 (.ofNat b)))=some (.int .i64 (.ofNat (a+b)),Y):=by
 have e:aBin EAt .add 3 x y (.int .i64 (.ofNat a)) (.int .i64 (.ofNat b))=some (.int .i64 (wrapF .i64 (.ofNat a+.ofNat b))):=by kernel_rfl
 rw[show (Int.ofNat a+Int.ofNat b)=Int.ofNat (a+b) from rfl,wrap_nat (by omega)] at e
 exact still_of e
theorem ixA {r n i:Nat} {C:Cap} (h:i<n):still Y (aIndexAddr EAt 69 (.slice (some (r,0)) n C) (.int .i64 (.ofNat i)))=some (.ptr (some (r,i*1)),Y):=by
 have:=still_idx (E:=EAt) (t:=69) (z:=1) (i:=r) (o:=0) (n:=n) (k:=i) (c:=C) (kd:=.i64) (st:=Y) (by kernel_rfl) h
 rw[Nat.zero_add] at this
 exact this
end
noncomputable def f29 (A B:AV) (i:Nat):AFr:=xFr [(0,A),(1,B),(5,.int .i64 (.ofNat i))] 26
theorem sh29:dropC 1 c29=.seq (.seq (seqL (seqL (dropC 1 c29))) (.block 0 (.loop L29))) (dropC 2 c29):=by kernel_rfl
theorem same29 {S:ASt} {r r2 n:Nat} {C C2:Cap} {g:Nat→Nat} {cs cs2:List AV} {rw1 rw2:Bool} (ht:Tidy S) (q1:S.h.get r=some (.cells cs rw1)) (q2:∀i,i<n→cs[i*1]? = some (.int .i64 (.ofNat (g i)))) (q3:S.h.get r2=some (.cells cs2 rw2)) (q4:∀i,i<n→cs2[i*1]? = some (.int .i64 (.ofNat (g i)))) (hn:n<1000) :
  Call1 Tryz.prog 29 [.slice (some (r,0)) n C,.slice (some (r2,0)) n C2] S (.bool true,S):=by
 refine Call1.tripDrop EAtok (fn:=Tryz.f29) (c:=c29) (by kernel_rfl) (by kernel_rfl) (by kernel_rfl) (N:=26) (by kernel_rfl) (bool_p ..) (by simp[refsD]) ?_
 refine Trip.preR EAtok noSum_ok (k:=1) (kf:=[0,1]) (by kernel_rfl) (Q1:=fun z=>z=(.normal,xFr [(0,.slice (some (r,0)) n C),(1,.slice (some (r2,0)) n C2)] 26,S)) (Eq.mp (vcSa r r2 n C C2 S (fun z=>z=(.normal,xFr [(0,.slice (some (r,0)) n C),(1,.slice (some (r2,0)) n C2)] 26,S)))
  ⟨by kernel_rfl,by kernel_rfl,neqA,rfl⟩) ?_ (fun z h1 h2=>absurd (congrArg (·.1) h2) h1)
 rintro F Y hY
 cases hY
 rw[sh29]
 refine Trip.seq (R:=fun z=>z.1=.normal∧z.2.1=xFr [(0,.slice (some (r,0)) n C)] 26∧∃j,z.2.2=ASt.mk S.h (S.next+j)) ?_ (fun F Y hz=>?_) (fun e F Y he hz=>absurd hz.1 he)
 ·refine Trip.seq (R:=fun z=>z=(.normal,f29 (.slice (some (r,0)) n C) (.slice (some (r2,0)) n C2) 0,S)) (Trip.ofR EAtok noSum_ok (kf:=[0,1,5]) (Q1:=fun z=>z=(.normal,f29 (.slice (some (r,0)) n C) (.slice (some (r2,0)) n C2) 0,S)) (Eq.mp (vcSb r r2 n C C2 S (fun z=>z=(.normal,f29 (.slice (some (r,0)) n C) (.slice (some (r2,0)) n C2) 0,S))) rfl) (fun e F Y hz=>hz)) (fun F Y hz=>?_) (fun e F Y he hz=>by cases hz;exact absurd rfl he)
  cases hz
  refine Trip.block (Trip.loop (fun mm fr st=>∃i,i≤n∧mm=n - i∧fr=f29 (.slice (some (r,0)) n C) (.slice (some (r2,0)) n C2) i∧∃j,st=ASt.mk S.h (S.next+j)) ?_ n ⟨0,Nat.zero_le _,rfl,rfl,0,rfl⟩)
  rintro mm fr st ⟨i,hi,rfl,rfl,j,rfl⟩
  by_cases hin:i<n
  ·refine Trip.ofR EAtok noSum_ok (kf:=[0,1,5]) (Q1:=fun z=>∃j,z=(.normal,f29 (.slice (some (r,0)) n C) (.slice (some (r2,0)) n C2) (i+1),ASt.mk S.h (S.next+j))) (Eq.mp (vcSc r r2 n i (g i) C C2 (ASt.mk S.h (S.next+j)) (fun z=>∃j,z=(.normal,f29 (.slice (some (r,0)) n C) (.slice (some (r2,0)) n C2) (i+1),ASt.mk S.h (S.next+j))))
    ⟨by kernel_rfl,by rw[lssA,decide_eq_true hin],ixA hin,load_at (by kernel_rfl) q1 (q2 i hin),ixA hin,load_at (by kernel_rfl) q3 (q4 i hin),neqA,addA (by omega),j+9,?_⟩) (fun e F Y hz=>?_)
   ·show (_,_,ASt.mk S.h (S.next+j+9))=_
    rw[Nat.add_assoc];rfl
   ·obtain⟨j',hz⟩:=hz
    cases hz
    exact⟨n - (i+1),f29 (.slice (some (r,0)) n C) (.slice (some (r2,0)) n C2) (i+1),ASt.mk S.h (S.next+j'),by omega,Wk.refl _ _ _,i+1,hin,rfl,rfl,j',rfl⟩
  ·have:i=n:=by omega
   subst this
   refine Trip.ofR EAtok noSum_ok (kf:=[0]) (Q1:=fun z=>z=(.exit 0,xFr [(0,.slice (some (r,0)) i C)] 26,ASt.mk S.h (S.next+j))) (Eq.mp (vcSd r r2 i i C C2 (ASt.mk S.h (S.next+j)) (fun z=>z=(.exit 0,xFr [(0,.slice (some (r,0)) i C)] 26,ASt.mk S.h (S.next+j)))) ⟨by kernel_rfl,by rw[lssA,decide_eq_false (by omega)],rfl⟩) (fun e F Y hz=>?_)
   cases hz
   exact⟨fun _=>⟨rfl,rfl,_,rfl⟩,fun h=>absurd rfl h⟩
 ·obtain⟨_,g2,j,g3⟩:=hz
  simp only at g2 g3
  subst g2 g3
  refine Trip.ofR EAtok noSum_ok (kf:=[4]) (Q1:=fun z=>z=(.ret,xFr [(4,.bool true)] 26,ASt.mk S.h (S.next+j))) (Eq.mp (vcSe (.slice (some (r,0)) n C) (ASt.mk S.h (S.next+j)) (fun z=>z=(.ret,xFr [(4,.bool true)] 26,ASt.mk S.h (S.next+j)))) rfl) (fun e F Y hz=>?_)
  cases hz
  exact⟨.inr rfl,rfl,leave_of (rs:=[.tmp 4]) (by kernel_rfl) rfl (res_tmp (by kernel_rfl) res_nil) rfl,fun _ _=>rfl⟩
end Go.Proofs.YtiafochainjglaaGreatDoor.drp.atc
end

section
open Go Go.Ax Go.Proofs
namespace Go.Proofs.YtiafochainjglaaGreatDoor.drp.atc
set_option linter.unusedVariables false
open oo cd cd2 cd3 cd4 cd5 cd9 my
noncomputable def EPw:Env:=envEx Tryz.prog [0,3,4,5] [(85,Tryz.f85)] []
theorem EPwok:Env.Ok Tryz.prog EPw:=envEx_ok (xs:=[]) ⟨⟨Tryz.func85,Tryz.call85⟩,trivial⟩ trivial (by kernel_rfl)
theorem at_of {x y:Nat} (h:fstO ((M EPw (drawA EPw) noSum 40).call 85 [.int .i64 (.ofNat x)] (mkSt [] 1))=some (.int .i64 (.ofNat y))) (S:ASt):Call1 Tryz.prog 85 [.int .i64 (.ofNat x)] S (.int .i64 (.ofNat y),S):=by
 have hp:∀a,a∈[AV.int .i64 (.ofNat x)]→refsV 0 a:=fun a ha=>by rw[List.mem_singleton.1 ha];simp[refsV]
 exact Call1.pureN (n:=1) (AtMem.of_fst EPwok noSum_ok h) (by simp[refsV]) (fun a ha=>by rw[List.mem_singleton.1 ha];simp[refsV])
theorem power_at (S:ASt):∀x:Nat,x<16→Call1 Tryz.prog 85 [.int .i64 (.ofNat x)] S (.int .i64 (.ofNat (2 ^ x)),S)
 | 0,_=>at_of (by kernel_rfl) S
 | 1,_=>at_of (by kernel_rfl) S
 | 2,_=>at_of (by kernel_rfl) S
 | 3,_=>at_of (by kernel_rfl) S
 | 4,_=>at_of (by kernel_rfl) S
 | 5,_=>at_of (by kernel_rfl) S
 | 6,_=>at_of (by kernel_rfl) S
 | 7,_=>at_of (by kernel_rfl) S
 | 8,_=>at_of (by kernel_rfl) S
 | 9,_=>at_of (by kernel_rfl) S
 | 10,_=>at_of (by kernel_rfl) S
 | 11,_=>at_of (by kernel_rfl) S
 | 12,_=>at_of (by kernel_rfl) S
 | 13,_=>at_of (by kernel_rfl) S
 | 14,_=>at_of (by kernel_rfl) S
 | 15,_=>at_of (by kernel_rfl) S
 | x+16,h=>absurd h (by omega)
end Go.Proofs.YtiafochainjglaaGreatDoor.drp.atc
end

section
open Go Go.Ax Go.Proofs
namespace Go.Proofs.YtiafochainjglaaGreatDoor.drp.atc
set_option linter.unusedVariables false
open oo cd cd2 cd3 cd4 cd5 cd9
section
variable {E:Env} {Y:ASt} {a b:Nat} {x y:Operand} {t:TypeId} {k:IntKind}
theorem opLss:still Y (aBin E .lss t x y (.int k (.ofNat a)) (.int k (.ofNat b)))=some (.bool (decide (a<b)),Y):=by
 have e:aBin E .lss t x y (.int k (.ofNat a)) (.int k (.ofNat b))=some (.bool (ltF (.ofNat a) (.ofNat b))):=by cases k<;>rfl
 rw[ltF_nn] at e
 exact still_of e
theorem opGtr:still Y (aBin E .gtr t x y (.int k (.ofNat a)) (.int k (.ofNat b)))=some (.bool (decide (b<a)),Y):=by
 have e:aBin E .gtr t x y (.int k (.ofNat a)) (.int k (.ofNat b))=some (.bool (ltF (.ofNat b) (.ofNat a))):=by cases k<;>rfl
 rw[ltF_nn] at e
 exact still_of e
theorem opGeq:still Y (aBin E .geq t x y (.int k (.ofNat a)) (.int k (.ofNat b)))=some (.bool (!decide (a<b)),Y):=by
 have e:aBin E .geq t x y (.int k (.ofNat a)) (.int k (.ofNat b))=some (.bool (!ltF (.ofNat a) (.ofNat b))):=by cases k<;>rfl
 rw[ltF_nn] at e
 exact still_of e
theorem opEql:still Y (aBin E .eql t x y (.int k (.ofNat a)) (.int k (.ofNat b)))=some (.bool (decide (a=b)),Y):=by
 have e:aBin E .eql t x y (.int k (.ofNat a)) (.int k (.ofNat b))=some (.bool (Nat.beq a b)):=by cases k<;>rfl
 rw[beq_dec] at e
 exact still_of e
theorem opNeq:still Y (aBin E .neq t x y (.int k (.ofNat a)) (.int k (.ofNat b)))=some (.bool (!decide (a=b)),Y):=by
 have e:aBin E .neq t x y (.int k (.ofNat a)) (.int k (.ofNat b))=some (.bool (!Nat.beq a b)):=by cases k<;>rfl
 rw[beq_dec] at e
 exact still_of e
theorem lT (h:a<b):still Y (aBin E .lss t x y (.int k (.ofNat a)) (.int k (.ofNat b)))=some (.bool true,Y):=by rw[opLss,decide_eq_true h]
theorem lF (h:b≤a):still Y (aBin E .lss t x y (.int k (.ofNat a)) (.int k (.ofNat b)))=some (.bool false,Y):=by rw[opLss,decide_eq_false (by omega)]
theorem gT (h:b<a):still Y (aBin E .gtr t x y (.int k (.ofNat a)) (.int k (.ofNat b)))=some (.bool true,Y):=by rw[opGtr,decide_eq_true h]
theorem gF (h:a≤b):still Y (aBin E .gtr t x y (.int k (.ofNat a)) (.int k (.ofNat b)))=some (.bool false,Y):=by rw[opGtr,decide_eq_false (by omega)]
theorem geT (h:b≤a):still Y (aBin E .geq t x y (.int k (.ofNat a)) (.int k (.ofNat b)))=some (.bool true,Y):=by rw[opGeq,decide_eq_false (by omega)];rfl
theorem geF (h:a<b):still Y (aBin E .geq t x y (.int k (.ofNat a)) (.int k (.ofNat b)))=some (.bool false,Y):=by rw[opGeq,decide_eq_true h];rfl
theorem eT (h:a=b):still Y (aBin E .eql t x y (.int k (.ofNat a)) (.int k (.ofNat b)))=some (.bool true,Y):=by rw[opEql,decide_eq_true h]
theorem eF (h:a≠b):still Y (aBin E .eql t x y (.int k (.ofNat a)) (.int k (.ofNat b)))=some (.bool false,Y):=by rw[opEql,decide_eq_false h]
theorem nT (h:a≠b):still Y (aBin E .neq t x y (.int k (.ofNat a)) (.int k (.ofNat b)))=some (.bool true,Y):=by rw[opNeq,decide_eq_false h];rfl
theorem nF (h:a=b):still Y (aBin E .neq t x y (.int k (.ofNat a)) (.int k (.ofNat b)))=some (.bool false,Y):=by rw[opNeq,decide_eq_true h];rfl
theorem opAdd (h:a+b<4611686018427387904):still Y (aBin E .add t x y (.int .i64 (.ofNat a)) (.int .i64 (.ofNat b)))=some (.int .i64 (.ofNat (a+b)),Y):=by
 have e:aBin E .add t x y (.int .i64 (.ofNat a)) (.int .i64 (.ofNat b))=some (.int .i64 (wrapF .i64 (.ofNat a+.ofNat b))):=rfl
 rw[show (Int.ofNat a+Int.ofNat b)=Int.ofNat (a+b) from rfl,wrap_nat (by omega)] at e
 exact still_of e
theorem opSub {z:Nat} (e0:z=a - b) (h:b≤a∧a<4611686018427387904:=by omega):still Y (aBin E .sub t x y (.int .i64 (.ofNat a)) (.int .i64 (.ofNat b)))=some (.int .i64 (.ofNat z),Y):=by
 have e:aBin E .sub t x y (.int .i64 (.ofNat a)) (.int .i64 (.ofNat b))=some (.int .i64 (wrapF .i64 (.ofNat a - .ofNat b))):=rfl
 rw[show (Int.ofNat a - Int.ofNat b)=Int.ofNat z by simp only[Int.ofNat_eq_natCast];omega,wrap_nat (by omega)] at e
 exact still_of e
theorem opMul (h:a*b<4611686018427387904):still Y (aBin E .mul t x y (.int .i64 (.ofNat a)) (.int .i64 (.ofNat b)))=some (.int .i64 (.ofNat (a*b)),Y):=by
 have e:aBin E .mul t x y (.int .i64 (.ofNat a)) (.int .i64 (.ofNat b))=some (.int .i64 (wrapF .i64 (.ofNat a * .ofNat b))):=rfl
 rw[show (Int.ofNat a*Int.ofNat b)=Int.ofNat (a*b) from rfl,wrap_nat (by omega)] at e
 exact still_of e
theorem opQuo (h:a<4611686018427387904) (hb:b≠0):still Y (aBin E .quo t x y (.int .i64 (.ofNat a)) (.int .i64 (.ofNat b)))=some (.int .i64 (.ofNat (a / b)),Y):=by
 cases b with
 | zero=>exact absurd rfl hb
 | succ b =>
  have e:aBin E .quo t x y (.int .i64 (.ofNat a)) (.int .i64 (.ofNat (b+1)))=some (.int .i64 (wrapF .i64 (Int.tdiv (.ofNat a) (.ofNat (b+1))))):=rfl
  rw[show Int.tdiv (.ofNat a) (.ofNat (b+1))=.ofNat (a / (b+1)) from rfl,wrap_nat (by have:=Nat.div_le_self a (b+1);omega)] at e
  exact still_of e
theorem opRem (hb:b≠0):still Y (aBin E .rem t x y (.int k (.ofNat a)) (.int k (.ofNat b)))=some (.int k (.ofNat (a % b)),Y):=by
 cases b with
 | zero=>exact absurd rfl hb
 | succ b =>
  have e:aBin E .rem t x y (.int k (.ofNat a)) (.int k (.ofNat (b+1)))=some (.int k (Int.tmod (.ofNat a) (.ofNat (b+1)))):=by cases k<;>rfl
  rw[show Int.tmod (.ofNat a) (.ofNat (b+1))=.ofNat (a % (b+1)) from rfl] at e
  exact still_of e
theorem opShr {k2:IntKind} (hb:b≤k.bits):still Y (aBin E .shr t x y (.int k (.ofNat a)) (.int k2 (.ofNat b)))=some (.int k (.ofNat (a / 2 ^ b)),Y):=by
 have e:aBin E .shr t x y (.int k (.ofNat a)) (.int k2 (.ofNat b))=(match aShift .shr k (.ofNat a) (.ofNat b) with | some r=>some (.int k r) | none=>none):=rfl
 have e2:aShift .shr k (.ofNat a) (.ofNat b)=some (shrF (.ofNat a) b):=by
  show some (shrF (.ofNat a) (bif Nat.ble b k.bits then b else k.bits))=_
  rw[ble_t hb];rfl
 rw[e2] at e
 exact still_of e
theorem opAnd16 {a:Nat}:still Y (aBin E .and t x y (.int .u16 (.ofNat a)) (.int .u16 (.ofNat 1)))=some (.int .u16 (.ofNat (a % 2)),Y):=by
 have e:aBin E .and t x y (.int .u16 (.ofNat a)) (.int .u16 (.ofNat 1))=some (.int .u16 (wrapF .u16 (.ofNat (Nat.land (modN (.ofNat a) (big .u16)) (modN (.ofNat 1) (big .u16)))))):=rfl
 have e2:Nat.land (modN (.ofNat a) (big .u16)) (modN (.ofNat 1) (big .u16))=a % 2:=by
  show (a % 65536) &&& 1=_
  rw[Nat.and_one_is_mod];omega
 have e3:wrapF .u16 (.ofNat (a % 2))=.ofNat (a % 2):=by
  rcases Nat.mod_two_eq_zero_or_one a with h | h<;>rw[h]<;>rfl
 rw[e2,e3] at e
 exact still_of e
theorem opShl {k2:IntKind} (hb:b≤k.bits):still Y (aBin E .shl t x y (.int k (.ofNat a)) (.int k2 (.ofNat b)))=some (.int k (wrapF k (.ofNat (a*2 ^ b))),Y):=by
 have e:aBin E .shl t x y (.int k (.ofNat a)) (.int k2 (.ofNat b))=(match aShift .shl k (.ofNat a) (.ofNat b) with | some r=>some (.int k r) | none=>none):=rfl
 have e2:aShift .shl k (.ofNat a) (.ofNat b)=some (shlF k (.ofNat a) b):=by
  show some (shlF k (.ofNat a) (bif Nat.ble b k.bits then b else k.bits))=_
  rw[ble_t hb];rfl
 rw[e2] at e
 exact still_of e
end
theorem chainG {α:Type} {Inv:Nat→α→Prop} {R:Nat→α→α→Prop} {X0:α} (h0:Inv 0 X0):∀n:Nat,(∀i X,i<n→Inv i X→∃X',R i X X'∧Inv (i+1) X')→∃T:Nat→α,T 0=X0∧∀i,i<n→Inv i (T i)∧R i (T i) (T (i+1))∧Inv (i+1) (T (i+1))
 | 0,_=>⟨fun _=>X0,rfl,fun i h=>absurd h (Nat.not_lt_zero i)⟩
 | n+1,hs=>by
  obtain⟨T,h1,h2⟩:=chainG h0 n fun i X hi hI=>hs i X (by omega) hI
  have hn:Inv n (T n):=by
   cases n with
   | zero=>rw[h1];exact h0
   | succ k=>exact (h2 k (by omega)).2.2
  obtain⟨X',h3,h4⟩:=hs n (T n) (by omega) hn
  refine⟨fun j=>if j≤n then T j else X',by simp[h1],fun i hi=>?_⟩
  rcases Nat.lt_or_ge i n with hin | hin
  ·have:=h2 i hin
   simp only[show i≤n by omega,show i+1≤n by omega,if_true]
   exact this
  ·have:i=n:=by omega
   subst this
   simp only[Nat.le_refl,if_true,show ¬i+1≤i by omega,if_false]
   exact⟨hn,h3,h4⟩
theorem Trip.turns {P:Program} {kb:Nat} {ro:Option Nat} {L:Code} {id n:Nat} {T:Nat→AFr×ASt} {F:AFr} {Z:ASt} (h:∀i,i<n→Trip P kb ro L (T i).1 (T i).2 fun r=>r=(.normal,(T (i+1)).1,(T (i+1)).2))
  (hx:Trip P kb ro L (T n).1 (T n).2 fun r=>r=(.exit id,F,Z)):Trip P kb ro (.block id (.loop L)) (T 0).1 (T 0).2 fun r=>r=(.normal,F,Z):=by
 refine Trip.block (Trip.loop (fun m fr st=>∃i,i≤n∧m=n - i∧fr=(T i).1∧st=(T i).2) ?_ n ⟨0,Nat.zero_le _,rfl,rfl,rfl⟩)
 rintro m fr st ⟨i,hi,rfl,rfl,rfl⟩
 by_cases e:i<n
 ·refine (h i e).mono fun r hr=>?_
  subst hr
  exact⟨n - (i+1),_,_,by omega,Wk.refl _ _ _,i+1,e,rfl,rfl,rfl⟩
 ·have:i=n:=by omega
  subst this
  refine hx.mono fun r hr=>?_
  subst hr
  exact⟨fun _=>rfl,fun q=>absurd rfl q⟩
theorem Trip.then {P:Program} {kb:Nat} {ro:Option Nat} {a b:Code} {fr F:AFr} {st Z:ASt} {Q:Exit×AFr×ASt→Prop} (h:Trip P kb ro a fr st fun r=>r=(.normal,F,Z)) (h2:Trip P kb ro b F Z Q):Trip P kb ro (.seq a b) fr st Q :=
 Trip.seq h (fun F Y hr=>by cases hr;exact h2) (fun e F Y he hr=>by cases hr;exact absurd rfl he)
section
variable {S Z:ASt} {L:List (Nat×AO)} {n k:Nat}
theorem upS_ne:∀{L:List (Nat×AO)} {t:T AO},(∀p,p∈L→p.1≠k)→(L.foldl (fun t p=>t.set D p.1 p.2) t).get k=t.get k
 | [],t,_=>rfl
 | p::L,t,h=>by
  show (L.foldl (fun t p=>t.set D p.1 p.2) (t.set D p.1 p.2)).get k=_
  rw[upS_ne fun q hq=>h q (List.mem_cons_of_mem _ hq),T.get_set,if_neg (fun e=>h p List.mem_cons_self e.symm)]
theorem upS_at:∀{L:List (Nat×AO)} {t:T AO} {p:Nat×AO},(L.map (·.1)).Nodup→p∈L→(L.foldl (fun t p=>t.set D p.1 p.2) t).get p.1=some p.2
 | [],t,p,_,h=>by cases h
 | q::L,t,p,hn,h=>by
  rw[List.map_cons,List.nodup_cons] at hn
  show (L.foldl (fun t p=>t.set D p.1 p.2) (t.set D q.1 q.2)).get p.1=_
  rcases List.mem_cons.1 h with rfl | h
  ·rw[upS_ne fun r hr e=>hn.1 (by rw[←e];exact List.mem_map_of_mem hr),T.get_set,if_pos rfl]
  ·exact upS_at hn.2 h
structure Ends (S Z:ASt) (L:List (Nat×AO)):Prop where
 at_:∀p,p∈L→Z.h.get p.1=some p.2
 good:∀p,p∈L→Go.Ax.Good S p.1∧refsB (Go.Ax.Good S) p.2
 old:∀k,k<S.next→(∀p,p∈L→p.1≠k)→Z.h.get k=S.h.get k
structure After (S S':ASt) (L:List (Nat×AO)):Prop where
 at_:∀p,p∈L→S'.h.get p.1=some p.2
 old:∀k,(∀p,p∈L→p.1≠k)→S'.h.get k=S.h.get k
 tidy:Tidy S'
 next:S.next≤S'.next
theorem Call1.ends {P:Program} {E:Env} (hE:E.Ok P) {f:Nat} {fn:Func} {c:Code} (hfn:E.fn.get f=some fn) (hc:fn.body=some c) {args:List AV} (hb:Nat.ble args.length fn.ntmps=true) {N M:Nat} (hN:fn.ntmps=N) {v:AV} (ht:Tidy S) (hnd:(L.map (·.1)).Nodup) (hM:S.next≤M) (hlt:∀p,p∈L→p.1<M) (hgd:∀p,p∈L→Go.Ax.Good S p.1∧refsB (Go.Ax.Good S) p.2) (hv:refsD (Go.Ax.Good S) v)
  (h:Trip P S.next none c {m:=putArgs args 0 .e,n:=N,defs:=[]} S (fun r=>(r.1=.normal∨r.1=.ret)∧∃Z,leaveA E fn r.2.1 r.2.2=some (v,Z)∧Ends S Z L∧Z.next≤M)):∃S',Call1 P f args S (v,S')∧After S S' L∧S'.next=M:=by
 subst hN
 have at':∀p,p∈L→(upS S L M).h.get p.1=some p.2:=fun p hp=>upS_at hnd hp
 have ne':∀k,(∀p,p∈L→p.1≠k)→(upS S L M).h.get k=S.h.get k:=fun k hk=>upS_ne hk
 have hcase:∀k x,(upS S L M).h.get k=some x→(∃p,p∈L∧p.1=k∧p.2=x)∨((∀p,p∈L→p.1≠k)∧S.h.get k=some x):=fun k x hx=>by
  by_cases e:∃p,p∈L∧p.1=k
  ·obtain⟨p,hp,rfl⟩:=e
   rw[at' p hp] at hx
   exact .inl ⟨p,hp,rfl,Option.some.inj hx⟩
  ·have e':∀p,p∈L→p.1≠k:=fun p hp q=>e ⟨p,hp,q⟩
   rw[ne' k e'] at hx
   exact .inr ⟨e',hx⟩
 refine⟨upS S L M,Call2.up (fun B w0 ι w args' hB hsr hva=>?_) hM (fun i a hi _=>?_) hv,⟨at',ne',fun k hk=>?_,hM⟩,rfl⟩
 ·obtain⟨h1,h2⟩:=Trip.call hE hfn hc hb (R:=fun q=>q.1=v∧Ends S q.2 L∧q.2.next≤M) (h.mono fun r ⟨q1,Z,q2,q3,q4⟩=>⟨q1,(v,Z),q2,rfl,q3,q4⟩) B hB w0 ι w args' hsr hva
  refine⟨h1,h2.mono fun e w' ⟨q,⟨hq1,hq2,hq3⟩,x,ι',g1,g2,g3,g4⟩=>?_⟩
  obtain⟨v',Z⟩:=q
  simp only at hq1 hq2 hq3
  subst hq1
  refine⟨x,ι',g1,g2,SR.sub g3 (fun k x hx=>?_) hq3,g4⟩
  rcases hcase k x hx with⟨p,hp,rfl,rfl⟩ | ⟨hk,hs⟩
  ·exact hq2.at_ p hp
  ·have:=hq2.old k (ht.lt hs) hk
   show Z.h.get k=some x
   rw[this];exact hs
 ·rcases hcase i a hi with⟨p,hp,rfl,rfl⟩ | ⟨_,hs⟩
  ·exact .inr (hgd p hp)
  ·exact .inl hs
 ·have hk:M≤k:=hk
  rw[ne' k (fun p hp e=>by have:=hlt p hp;omega)]
  exact ht k (by omega)
end
def rowI (L:List Nat):List AV:=L.map fun e=>.int .i64 (.ofNat e)
theorem rowI_len (L:List Nat):(rowI L).length=L.length:=by unfold rowI;rw[List.length_map]
theorem rowI_app (A B:List Nat):rowI (A++B)=rowI A++rowI B:=List.map_append
theorem rowI_at {L:List Nat} {i:Nat} (h:i<L.length):(rowI L)[i*1]? = some (.int .i64 (.ofNat (L.getD i 0))):=by
 unfold rowI
 rw[Nat.mul_one,List.getElem?_map,List.getD_eq_getElem?_getD,List.getElem?_eq_getElem h];rfl
theorem rowI_d {D:Nat→Prop} (L:List Nat):refsDs D (rowI L):=refsDs_all.2 fun v hv=>by
 unfold rowI at hv
 obtain⟨e,_,rfl⟩:=List.mem_map.1 hv
 trivial
def HotP (base:Nat) (X:ASt) (P:AV) (L:List Nat):Prop:=(P=.slice none 0 (.known 0)∧L=[])∨∃r,0<L.length∧P=.slice (some (r,0)) L.length (.rest 1)∧base≤r∧X.h.get r=some (.cells (rowI L) true)
theorem HotP.keep {base:Nat} {X X':ASt} {P:AV} {L:List Nat} (h:HotP base X P L) (hk:∀k,base≤k→k<X.next→X'.h.get k=X.h.get k) (ht:Tidy X):HotP base X' P L:=by
 rcases h with h | ⟨r,h0,h1,h2,h3⟩
 ·exact .inl h
 ·exact .inr ⟨r,h0,h1,h2,by rw[hk r h2 (ht.lt h3)];exact h3⟩
end Go.Proofs.YtiafochainjglaaGreatDoor.drp.atc
end

section
open Go Go.Ax Go.Proofs
namespace Go.Proofs.YtiafochainjglaaGreatDoor.drp.atc
set_option linter.unusedVariables false
open oo cd cd2 cd3 cd4 cd5 cd9 my
theorem cvtA {ho:Nat} {S:ASt} (h:ho<65536):aConvert EAt 34 3 (.int .u16 (.ofNat ho)) S=some (.int .i64 (.ofNat ho),S):=by
 have e:aConvert EAt 34 3 (.int .u16 (.ofNat ho)) S=some (.int .i64 (wrapF .i64 (.ofNat ho)),S):=by kernel_rfl
 rw[wrap_nat (by omega)] at e
 exact e
theorem stop_at (ho room:Nat):∀m,∃n,n≤m∧(∀i,i<n→(hotL ho room i).length<room)∧(n=m∨¬(hotL ho room n).length<room)
 | 0=>⟨0,Nat.le_refl _,fun i h=>absurd h (Nat.not_lt_zero i),.inl rfl⟩
 | m+1=>by
  obtain⟨n,h1,h2,h3⟩:=stop_at ho room m
  rcases h3 with rfl | h3
  ·by_cases h:(hotL ho room n).length<room
   ·refine⟨n+1,Nat.le_refl _,fun i hi=>?_,.inl rfl⟩
    rcases Nat.lt_or_ge i n with q | q
    ·exact h2 i q
    ·obtain rfl:i=n:=by omega
     exact h
   ·exact⟨n,by omega,h2,.inr h⟩
  ·exact⟨n,by omega,h2,.inr h3⟩
theorem stop_val {ho room n m:Nat} (h1:n≤m) (h:n=m∨¬(hotL ho room n).length<room):hotL ho room m=hotL ho room n:=by
 rcases h with rfl | h
 ·rfl
 ·have:=hotL_full h (m - n)
  rwa [show n+(m - n)=m by omega] at this
noncomputable def f28 (ho room:Nat) (P:AV) (x:Nat):AFr:=xFr [(0,.int .u16 (.ofNat ho)),(1,.int .i64 (.ofNat room)),(5,P),(6,.int .i64 (.ofNat x))] 29
theorem sh28:dropC 1 c28=.seq (.seq (seqL (seqL (dropC 1 c28))) (.block 0 (.loop L28))) (dropC 2 c28):=by kernel_rfl
theorem apT:appT EAt 69 69=some (1,8):=by kernel_rfl
structure SI (S:ASt) (L:List Nat) (s:AV×ASt):Prop where
 hot:HotP S.next s.2 s.1 L
 tidy:Tidy s.2
 next:S.next≤s.2.next
 old:∀k,k<S.next→s.2.h.get k=S.h.get k
theorem HotP.len {E:Env} {base:Nat} {X:ASt} {P:AV} {L:List Nat} (h:HotP base X P L) (h0:aBuiltinM E .len [69] [.slice none 0 (.known 0)] X=some (.int .i64 (.ofNat 0),X):=by kernel_rfl) (h1:∀r n,aBuiltinM E .len [69] [.slice (some (r,0)) n (.rest 1)] X=some (.int .i64 (.ofNat n),X):=by intro _ _;kernel_rfl):aBuiltinM E .len [69] [P] X=some (.int .i64 (.ofNat L.length),X):=by
 rcases h with⟨rfl,rfl⟩ | ⟨r,_,rfl,_,_⟩
 ·exact h0
 ·exact h1 _ _
theorem grow {S:ASt} {L:List Nat} {P:AV} {X:ASt} (h:SI S L (P,X)) (e:Nat) (hl:L.length<1000):∃P',aBuiltinM EAt .append [69,69] [P,.slice (some (X.next,0)) 1 (.known 1)] (X.add (.cells [.int .i64 (.ofNat e)] true))=some P'∧SI S (L++[e]) P':=by
 obtain⟨hot,tidy,next,old⟩:=h
 simp only at hot tidy next old
 obtain⟨S1,e1⟩:∃Y,Y=X.add (.cells [.int .i64 (.ofNat e)] true):=⟨_,rfl⟩
 have n1:S1.next=X.next+1:=by rw[e1];rfl
 have t1:Tidy S1:=by rw[e1];exact tidy.add
 have g1:S1.h.get X.next=some (.cells [.int .i64 (.ofNat e)] true):=by rw[e1];exact add_at
 have o1:∀k,k<X.next→S1.h.get k=X.h.get k:=fun k hk=>by rw[e1,add_ne (by omega)]
 have hf:aFirst S1 1 1 (.slice (some (X.next,0)) 1 (.known 1))=some [.int .i64 (.ofNat e)]:=first_at g1 (by kernel_rfl)
 rw[←e1]
 rcases hot with⟨rfl,rfl⟩ | ⟨r,h0,rfl,hr,hg⟩
 ·refine⟨_,append_nil_at apT rfl hf (by decide) (by decide) (by decide),⟨.inr ⟨S1.next,Nat.zero_lt_succ _,rfl,by omega,add_at⟩,t1.add,?_,fun k hk=>?_⟩⟩
  ·show S.next≤S1.next+1
   omega
  ·show (S1.add _).h.get k=_
   rw[add_ne (by omega),o1 k (by omega)];exact old k hk
 ·have hrX:=tidy.lt hg
  refine⟨_,append_grow_at (l:=L.length) apT rfl hf (by rw[o1 r hrX];exact hg) (by rw[rowI_len,Nat.mul_one]) (by decide) (by decide) (by omega) (by omega),⟨.inr ⟨S1.next,by rw[List.length_append];omega,by rw[List.length_append];rfl,by omega,?_⟩,?_,?_,fun k hk=>?_⟩⟩
  ·show ((S1.put r .dead).add _).h.get S1.next=_
   rw[rowI_app]
   exact add_at (S:=S1.put r .dead)
  ·exact (t1.put (by omega)).add
  ·show S.next≤S1.next+1
   omega
  ·show ((S1.put r .dead).add _).h.get k=_
   rw[add_ne (by rw[put_next];omega),put_ne (by omega),o1 k (by omega)]
   exact old k hk
section
variable {S:ASt} {ho room:Nat}
theorem srt_round {kb i:Nat} {s:AV×ASt} (hh:ho<65536) (hr:room<1000) (hi:i<16) (hlen:(hotL ho room i).length<room) (h:SI S (hotL ho room i) s) :
  ∃s',(Trip Tryz.prog kb none L28 (f28 ho room s.1 i) s.2 fun r=>r=(.normal,f28 ho room s'.1 (i+1),s'.2))∧SI S (hotL ho room (i+1)) s':=by
 obtain⟨P,X⟩:=s
 have hq:=pureC_ok (fun S=>power_at S i hi)
 have c1:=opLss (E:=EAt) (Y:=X) (t:=3) (k:=.i64) (a:=i) (b:=16) (x:=.tmp 7) (y:=.const (.int .i64 16))
 rw[decide_eq_true hi] at c1
 have c2:=h.hot.len (E:=EAt)
 have c3:=opLss (E:=EAt) (Y:=X) (t:=3) (k:=.i64) (a:=(hotL ho room i).length) (b:=room) (x:=.tmp 11) (y:=.tmp 12)
 rw[decide_eq_true hlen] at c3
 have hp:2 ^ i≠0:=Nat.pos_iff_ne_zero.1 (Nat.two_pow_pos i)
 have c5:=opQuo (E:=EAt) (Y:=X) (t:=3) (a:=ho) (b:=2 ^ i) (x:=.tmp 18) (y:=.tmp 20) (by omega) hp
 have c6:=opRem (E:=EAt) (Y:=X) (t:=3) (k:=.i64) (a:=ho / 2 ^ i) (b:=2) (x:=.tmp 21) (y:=.const (.int .i64 2)) (by decide)
 have c7:=opEql (E:=EAt) (Y:=X) (t:=3) (k:=.i64) (a:=ho / 2 ^ i % 2) (b:=1) (x:=.tmp 22) (y:=.const (.int .i64 1))
 have c9:∀Y:ASt,still Y (aBin EAt .add 3 (.tmp 15) (.const (.int .i64 1)) (.int .i64 (.ofNat i)) (.int .i64 (.ofNat 1)))=some (.int .i64 (.ofNat (i+1)),Y):=fun Y=>opAdd (by omega)
 by_cases hb:ho / 2 ^ i % 2=1
 ·rw[hb,decide_eq_true rfl] at c7
  rw[hb] at c6
  obtain⟨⟨P2,X2⟩,ha,hs⟩:=grow h i (by omega)
  have e:hotL ho room (i+1)=hotL ho room i++[i]:=if_pos ⟨hb,hlen⟩
  refine⟨(P2,X2),Trip.ofR EAtok (onlyC_ok hq) (kf:=[0,1,5,6]) (Q1:=fun r=>r=(.normal,f28 ho room P2 (i+1),X2)) (Eq.mp (vcOc _ ho room i _ (2 ^ i) (ho / 2 ^ i) P P2 (.slice (some (X.next,0)) 1 (.known 1)) X (X.add (.cells [.int .i64 (.ofNat i)] true)) X2 (fun r=>r=(.normal,f28 ho room P2 (i+1),X2)))
   ⟨c1,c2,c3,cvtA hh,ca (pureC_at ..),c5,c6,c7,by kernel_rfl,ha,c9 _,rfl⟩) (fun e F Y hz=>hz),?_⟩
  rw[e];exact hs
 ·rw[decide_eq_false hb] at c7
  have e:hotL ho room (i+1)=hotL ho room i:=if_neg (fun q=>hb q.1)
  refine⟨(P,X),Trip.ofR EAtok (onlyC_ok hq) (kf:=[0,1,5,6]) (Q1:=fun r=>r=(.normal,f28 ho room P (i+1),X)) (Eq.mp (vcOd _ ho room i _ (2 ^ i) (ho / 2 ^ i) (ho / 2 ^ i % 2) P X (fun r=>r=(.normal,f28 ho room P (i+1),X)))
   ⟨c1,c2,c3,cvtA hh,ca (pureC_at ..),c5,c6,c7,c9 _,rfl⟩) (fun e F Y hz=>hz),?_⟩
  rw[e];exact h
theorem srt_at (ht:Tidy S) (hh:ho<65536) (hr:room<1000):∃P S',Call1 Tryz.prog 28 [.int .u16 (.ofNat ho),.int .i64 (.ofNat room)] S (P,S')∧HotP S.next S' P (hotL ho room 16)∧Tidy S'∧S.next≤S'.next∧∀k,k<S.next→S'.h.get k=S.h.get k:=by
 obtain⟨n,hn,hlt,hend⟩:=stop_at ho room 16
 have i0:SI S (hotL ho room 0) (.slice none 0 (.known 0),S):=⟨.inl ⟨rfl,rfl⟩,ht,Nat.le_refl _,fun _ _=>rfl⟩
 obtain⟨T,hT0,hT⟩:=chainG (R:=fun (i:Nat) (s s':AV×ASt)=>Trip Tryz.prog S.next none L28 (f28 ho room s.1 i) s.2 fun r=>r=(.normal,f28 ho room s'.1 (i+1),s'.2)) i0 n (fun i s hi h=>srt_round hh hr (by omega) (hlt i hi) h)
 have iN:SI S (hotL ho room n) (T n):=by
  cases n with
  | zero=>rw[hT0];exact i0
  | succ m=>exact (hT m (by omega)).2.2
 have eN:=stop_val hn hend
 have hx:Trip Tryz.prog S.next none L28 (f28 ho room (T n).1 n) (T n).2 fun r=>r=(.exit 0,xFr [(5,(T n).1)] 29,(T n).2):=by
  rcases Nat.lt_or_ge n 16 with h16 | h16
  ·have hf:¬(hotL ho room n).length<room:=by
    rcases hend with e | e
    ·omega
    ·exact e
   have c1:=opLss (E:=EAt) (Y:=(T n).2) (t:=3) (k:=.i64) (a:=n) (b:=16) (x:=.tmp 7) (y:=.const (.int .i64 16))
   rw[decide_eq_true h16] at c1
   have c3:=opLss (E:=EAt) (Y:=(T n).2) (t:=3) (k:=.i64) (a:=(hotL ho room n).length) (b:=room) (x:=.tmp 11) (y:=.tmp 12)
   rw[decide_eq_false hf] at c3
   exact Trip.ofR EAtok noSum_ok (kf:=[5]) (Q1:=fun r=>r=(.exit 0,xFr [(5,(T n).1)] 29,(T n).2)) (Eq.mp (vcOy ho room n _ (T n).1 (T n).2 (fun r=>r=(.exit 0,xFr [(5,(T n).1)] 29,(T n).2))) ⟨c1,iN.hot.len,c3,rfl⟩) (fun e F Y hz=>hz)
  ·obtain rfl:n=16:=by omega
   have c1:=opLss (E:=EAt) (Y:=(T 16).2) (t:=3) (k:=.i64) (a:=16) (b:=16) (x:=.tmp 7) (y:=.const (.int .i64 16))
   rw[decide_eq_false (by omega)] at c1
   exact Trip.ofR EAtok noSum_ok (kf:=[5]) (Q1:=fun r=>r=(.exit 0,xFr [(5,(T 16).1)] 29,(T 16).2)) (Eq.mp (vcOx ho room 16 (T 16).1 (T 16).2 (fun r=>r=(.exit 0,xFr [(5,(T 16).1)] 29,(T 16).2))) ⟨c1,rfl⟩) (fun e F Y hz=>hz)
 have hrun:Trip Tryz.prog S.next none c28 {m:=putArgs [.int .u16 (.ofNat ho),.int .i64 (.ofNat room)] 0 .e,n:=29,defs:=[]} S fun r=>r=(.ret,xFr [(4,(T n).1)] 29,(T n).2):=by
  refine Trip.preR EAtok noSum_ok (k:=1) (kf:=[0,1,5]) (by kernel_rfl) (Q1:=fun z=>z=(.normal,xFr [(0,.int .u16 (.ofNat ho)),(1,.int .i64 (.ofNat room)),(5,.slice none 0 (.known 0))] 29,S)) (Eq.mp (vcOa ho room S (fun z=>z=(.normal,xFr [(0,.int .u16 (.ofNat ho)),(1,.int .i64 (.ofNat room)),(5,.slice none 0 (.known 0))] 29,S))) rfl) ?_ (fun z h1 h2=>absurd (congrArg (·.1) h2) h1)
  rintro F Y hY
  cases hY
  rw[sh28]
  refine Trip.then (F:=xFr [(5,(T n).1)] 29) (Z:=(T n).2) ?_ (Trip.ofR EAtok noSum_ok (kf:=[4]) (Q1:=fun z=>z=(.ret,xFr [(4,(T n).1)] 29,(T n).2)) (Eq.mp (vcOe (T n).1 (T n).2 (fun z=>z=(.ret,xFr [(4,(T n).1)] 29,(T n).2))) rfl) (fun e F Y hz=>hz))
  refine Trip.then (F:=f28 ho room (.slice none 0 (.known 0)) 0) (Z:=S) (Trip.ofR EAtok noSum_ok (kf:=[0,1,5,6]) (Q1:=fun z=>z=(.normal,f28 ho room (.slice none 0 (.known 0)) 0,S)) (Eq.mp (vcOb ho room (.slice none 0 (.known 0)) S (fun z=>z=(.normal,f28 ho room (.slice none 0 (.known 0)) 0,S))) rfl) (fun e F Y hz=>hz)) ?_
  have:=Trip.turns (T:=fun i=>(f28 ho room (T i).1 i,(T i).2)) (fun i hi=>(hT i hi).2.1) hx
  simp only[hT0] at this
  exact this
 rw[eN]
 have hlv:∀{Z:ASt} {P:AV},leaveA EAt Tryz.f28 (xFr [(4,P)] 29) Z=some (P,Z):=fun {Z P}=>leave_of (rs:=[.tmp 4]) (by kernel_rfl) rfl (res_tmp (by kernel_rfl) res_nil) rfl
 rcases iN.hot with⟨e1,e2⟩ | ⟨r,e0,e1,e2,e3⟩
 ·obtain⟨S',h1,h2,h3⟩:=Call1.ends EAtok (fn:=Tryz.f28) (c:=c28) (by kernel_rfl) (by kernel_rfl) (by kernel_rfl) (N:=29) (by kernel_rfl) (L:=[]) (v:=(T n).1) ht List.nodup_nil iN.next (fun p hp=>by cases hp) (fun p hp=>by cases hp) (by rw[e1];trivial)
   (hrun.mono fun r hr=>by subst hr;exact⟨.inr rfl,_,hlv,⟨fun p hp=>(by cases hp),fun p hp=>(by cases hp),fun k hk _=>iN.old k hk⟩,Nat.le_refl _⟩)
  exact⟨_,S',h1,.inl ⟨e1,e2⟩,h2.tidy,h2.next,fun k _=>h2.old k (fun p hp=>by cases hp)⟩
 ·have gd:∀p,p∈[(r,AO.cells (rowI (hotL ho room n)) true)]→Go.Ax.Good S p.1∧refsB (Go.Ax.Good S) p.2:=fun p hp=>by
   rw[List.mem_singleton.1 hp]
   exact⟨.inl e2,rowI_d _⟩
  obtain⟨S',h1,h2,h3⟩:=Call1.ends EAtok (fn:=Tryz.f28) (c:=c28) (by kernel_rfl) (by kernel_rfl) (by kernel_rfl) (N:=29) (by kernel_rfl) (L:=[(r,.cells (rowI (hotL ho room n)) true)]) (v:=(T n).1) ht (by simp) iN.next (fun p hp=>by rw[List.mem_singleton.1 hp];exact iN.tidy.lt e3) gd (by rw[e1];exact .inl e2)
   (hrun.mono fun z hz=>by subst hz;exact⟨.inr rfl,_,hlv,⟨fun p hp=>(by rw[List.mem_singleton.1 hp];exact e3),gd,fun k hk _=>iN.old k hk⟩,Nat.le_refl _⟩)
  exact⟨_,S',h1,.inr ⟨r,e0,e1,e2,h2.at_ _ (List.mem_singleton_self _)⟩,h2.tidy,h2.next,fun k hk=>h2.old k (fun p hp=>by rw[List.mem_singleton.1 hp];show r≠k;omega)⟩
end
end Go.Proofs.YtiafochainjglaaGreatDoor.drp.atc
end

section
open Go Go.Ax Go.Proofs
namespace Go.Proofs.YtiafochainjglaaGreatDoor.drp.atc
set_option linter.unusedVariables false
open oo cd cd2 cd3 cd4 cd5 cd9
def has (s j:Nat):Bool:=decide (s / 2 ^ j % 2=1)
theorem has_tb (s j:Nat):has s j=s.testBit j:=by unfold has;rw[Nat.testBit_eq_decide_div_mod_eq]
def mrk (k s j:Nat):Nat:=if j<k∧has s j=false then Nat.xor s (2 ^ j) else s
theorem mrk_has {k s j i:Nat}:has (mrk k s j) i=(has s i || (decide (i=j) && decide (j<k))):=by
 unfold mrk
 split
 ·rename_i h
  rw[has_tb,has_tb]
  show (s ^^^ 2 ^ j).testBit i=_
  rw[Nat.testBit_xor,Nat.testBit_two_pow]
  have hj:=h.2
  rw[has_tb] at hj
  by_cases e:i=j
  ·subst e
   rw[hj];simp[h.1]
  ·have e':¬j=i:=fun q=>e q.symm
   simp[e,e']
 ·rename_i h
  by_cases e:i=j
  ·subst e
   by_cases q:i<k
   ·have:has s i=true:=by
     cases e2:has s i
     ·exact absurd ⟨q,e2⟩ h
     ·rfl
    rw[this];simp
   ·simp[q]
  ·simp[e]
theorem mrk_lt {k s j n:Nat} (hs:s<2 ^ n) (hk:k≤n):mrk k s j<2 ^ n:=by
 unfold mrk
 split
 ·rename_i h
  exact Nat.xor_lt_two_pow hs (Nat.pow_lt_pow_right (by decide) (by omega))
 ·exact hs
def mrk4 (k s x:Nat):Nat→Nat
 | 0=>s
 | i+1=>mrk k (mrk4 k s x i) (x*4+i)
theorem mrk4_has {k s x i:Nat}:∀n,n≤4→i<k→has (mrk4 k s x n) i=(has s i || (decide (x*4≤i) && decide (i<x*4+n)))
 | 0,_,_=>by
  show has s i=_
  have:(decide (x*4≤i) && decide (i<x*4+0))=false:=by
   rw[Bool.and_eq_false_iff]
   rcases Nat.lt_or_ge i (x*4) with h | h
   ·exact .inl (decide_eq_false (by omega))
   ·exact .inr (decide_eq_false (by omega))
  rw[this,Bool.or_false]
 | n+1,hn,hi=>by
  show has (mrk k (mrk4 k s x n) (x*4+n)) i=_
  rw[mrk_has,mrk4_has n (by omega) hi,Bool.or_assoc]
  congr 1
  rw[Bool.eq_iff_iff]
  simp only[Bool.or_eq_true,Bool.and_eq_true,decide_eq_true_eq]
  omega
theorem mrk4_lt {k s x m:Nat} (hs:s<2 ^ m) (hk:k≤m):∀n,mrk4 k s x n<2 ^ m
 | 0=>hs
 | n+1=>mrk_lt (mrk4_lt hs hk n) hk
def mrkL (k s:Nat) (L:List Nat):Nat→Nat
 | 0=>s
 | i+1=>mrk4 k (mrkL k s L i) (L.getD i 0) 4
theorem mrkL_has {k s i:Nat} {L:List Nat} (hi:i<k):∀n,n≤L.length→has (mrkL k s L n) i=(has s i || (L.take n).any fun x=>decide (x=i / 4))
 | 0,_=>by
  show has s i=_
  rw[List.take_zero,List.any_nil,Bool.or_false]
 | n+1,hn=>by
  show has (mrk4 k (mrkL k s L n) (L.getD n 0) 4) i=_
  rw[mrk4_has 4 (Nat.le_refl _) hi,mrkL_has hi n (by omega),Bool.or_assoc]
  congr 1
  have e:L.take (n+1)=L.take n++[L.getD n 0]:=by
   rw[List.take_succ_eq_append_getElem hn,List.getD_eq_getElem?_getD,List.getElem?_eq_getElem hn];rfl
  rw[e,List.any_append]
  congr 1
  rw[List.any_cons,List.any_nil,Bool.or_false,Bool.eq_iff_iff]
  simp only[Bool.and_eq_true,decide_eq_true_eq]
  omega
theorem mrkL_lt {k s m:Nat} {L:List Nat} (hs:s<2 ^ m) (hk:k≤m):∀n,mrkL k s L n<2 ^ m
 | 0=>hs
 | n+1=>mrk4_lt (mrkL_lt hs hk n) hk 4
theorem all_has {k i:Nat} (h:i<k):has (2 ^ k - 1) i=true:=by
 rw[has_tb,Nat.testBit_two_pow_sub_one,decide_eq_true h]
theorem fits {s k:Nat} (hs:s<18446744073709551616) (hk:k≤64):beyS s k=false↔s<2 ^ k:=by
 unfold beyS
 rcases Nat.lt_or_ge k 64 with h | h
 ·rw[decide_eq_true h,Bool.true_and]
  have hp:=Nat.two_pow_pos k
  constructor
  ·intro q
   have q':s / 2 ^ k=0:=by simpa using q
   exact (Nat.div_eq_zero_iff_lt hp).1 q'
  ·intro q
   rw[(Nat.div_eq_zero_iff_lt hp).2 q];rfl
 ·obtain rfl:k=64:=by omega
  rw[decide_eq_false (by omega),Bool.false_and]
  exact⟨fun _=>hs,fun _=>rfl⟩
section
variable {E:Env} {Y:ASt} {a b k:Nat} {x y:Operand} {t:TypeId}
theorem wU {n:Nat} (h:n<18446744073709551616):wrapF .u64 (.ofNat n)=.ofNat n:=wrapU h
theorem mU {n:Nat} (h:n<18446744073709551616):modN (.ofNat n) (big .u64)=n:=Nat.mod_eq_of_lt h
theorem opAnd1 (ha:a<18446744073709551616):still Y (aBin E .and t x y (.int .u64 (.ofNat a)) (.int .u64 (.ofNat 1)))=some (.int .u64 (.ofNat (a % 2)),Y):=by
 have e:aBin E .and t x y (.int .u64 (.ofNat a)) (.int .u64 (.ofNat 1))=some (.int .u64 (wrapF .u64 (.ofNat (Nat.land (modN (.ofNat a) (big .u64)) (modN (.ofNat 1) (big .u64)))))):=rfl
 rw[mU ha,mU (by decide)] at e
 have e2:Nat.land a 1=a % 2:=Nat.and_one_is_mod a
 rw[e2,wU (by omega)] at e
 exact still_of e
theorem opXor (ha:a<18446744073709551616) (hb:b<18446744073709551616):still Y (aBin E .xor t x y (.int .u64 (.ofNat a)) (.int .u64 (.ofNat b)))=some (.int .u64 (.ofNat (Nat.xor a b)),Y):=by
 have e:aBin E .xor t x y (.int .u64 (.ofNat a)) (.int .u64 (.ofNat b))=some (.int .u64 (wrapF .u64 (.ofNat (Nat.xor (modN (.ofNat a) (big .u64)) (modN (.ofNat b) (big .u64)))))):=rfl
 have h2:Nat.xor a b<18446744073709551616:=Nat.xor_lt_two_pow (n:=64) ha hb
 rw[mU ha,mU hb,wU h2] at e
 exact still_of e
theorem opShl1 {k2:IntKind} (hb:b<64):still Y (aBin E .shl t x y (.int .u64 (.ofNat 1)) (.int k2 (.ofNat b)))=some (.int .u64 (.ofNat (2 ^ b)),Y):=by
 have h:=opShl (E:=E) (Y:=Y) (t:=t) (k:=.u64) (k2:=k2) (a:=1) (b:=b) (x:=x) (y:=y) (show b≤64 by omega)
 have h2:2 ^ b<18446744073709551616:=Nat.pow_lt_pow_right (a:=2) (m:=b) (n:=64) (by decide) hb
 rw[Nat.one_mul,wU h2] at h
 exact h
theorem opAll (hk:k≤64):∃u:Int,still Y (aBin E .shl t x y (.int .u64 (.ofNat 1)) (.int .i64 (.ofNat k)))=some (.int .u64 u,Y)∧∀(t:TypeId) (x y:Operand),still Y (aBin E .sub t x y (.int .u64 u) (.int .u64 (.ofNat 1)))=some (.int .u64 (.ofNat (2 ^ k - 1)),Y):=by
 rcases Nat.lt_or_ge k 64 with h | h
 ·refine⟨_,opShl1 h,fun t x y=>?_⟩
  have e:aBin E .sub t x y (.int .u64 (.ofNat (2 ^ k))) (.int .u64 (.ofNat 1))=some (.int .u64 (wrapF .u64 (.ofNat (2 ^ k) - .ofNat 1))):=rfl
  have hp:=Nat.two_pow_pos k
  have h2:2 ^ k<18446744073709551616:=Nat.pow_lt_pow_right (a:=2) (m:=k) (n:=64) (by decide) h
  rw[show (Int.ofNat (2 ^ k) - Int.ofNat 1)=Int.ofNat (2 ^ k - 1) by simp only[Int.ofNat_eq_natCast];omega,wU (by omega)] at e
  exact still_of e
 ·obtain rfl:k=64:=by omega
  refine⟨.ofNat 0,?_,fun t x y=>still_of (by kernel_rfl)⟩
  have h:=opShl (E:=E) (Y:=Y) (t:=t) (k:=.u64) (k2:=.i64) (a:=1) (b:=64) (x:=x) (y:=y) (show 64≤64 by omega)
  have e:wrapF .u64 (.ofNat (1*2 ^ 64))=.ofNat 0:=by kernel_rfl
  rw[e] at h
  exact h
theorem opBey (ha:a<18446744073709551616) (hk:k≤64):∃u:Nat,still Y (aBin E .andNot t x y (.int .u64 (.ofNat a)) (.int .u64 (.ofNat (2 ^ k - 1))))=some (.int .u64 (.ofNat u),Y)∧(u=0↔a<2 ^ k):=by
 have hp:=Nat.two_pow_pos k
 have h2:2 ^ k≤18446744073709551616:=Nat.pow_le_pow_right (n:=2) (by decide) hk
 have e:aBin E .andNot t x y (.int .u64 (.ofNat a)) (.int .u64 (.ofNat (2 ^ k - 1)))=some (.int .u64 (wrapF .u64 (.ofNat (Nat.land (modN (.ofNat a) (big .u64)) (big .u64 - 1 - modN (.ofNat (2 ^ k - 1)) (big .u64)))))):=rfl
 rw[mU ha,mU (by omega)] at e
 obtain⟨u,hu⟩:∃u,u=Nat.land a (big .u64 - 1 - (2 ^ k - 1)):=⟨_,rfl⟩
 rw[←hu] at e
 have hbit:∀i,u.testBit i=(a.testBit i && !decide (i<k)):=fun i=>by
  rw[hu]
  show (a &&& (18446744073709551616 - 1 - (2 ^ k - 1))).testBit i=_
  rw[Nat.testBit_and]
  rcases Nat.lt_or_ge i 64 with h | h
  ·congr 1
   rw[show 18446744073709551616 - 1 - (2 ^ k - 1)=2 ^ 64 - ((2 ^ k - 1)+1) by omega,Nat.testBit_two_pow_sub_succ (show 2 ^ k - 1<2 ^ 64 by omega),Nat.testBit_two_pow_sub_one,decide_eq_true h,Bool.true_and]
  ·rw[Nat.testBit_lt_two_pow (Nat.lt_of_lt_of_le ha (show 18446744073709551616≤2 ^ i from Nat.pow_le_pow_right (n:=2) (by decide) h)),Bool.false_and,Bool.false_and]
 have hlt:u<18446744073709551616:=by
  rw[hu]
  exact Nat.lt_of_le_of_lt Nat.and_le_left ha
 rw[wU hlt] at e
 refine⟨u,still_of e,?_⟩
 constructor
 ·intro h0
  refine Nat.lt_pow_two_of_testBit a fun i hi=>?_
  have:=hbit i
  rw[h0,Nat.zero_testBit,decide_eq_false (by omega)] at this
  simpa using this.symm
 ·intro hlt2
  refine Nat.eq_of_testBit_eq fun i=>?_
  rw[hbit,Nat.zero_testBit]
  rcases Nat.lt_or_ge i k with h | h
  ·rw[decide_eq_true h];simp
  ·rw[Nat.testBit_lt_two_pow (Nat.lt_of_lt_of_le hlt2 (Nat.pow_le_pow_right (by decide) h)),Bool.false_and]
end
end Go.Proofs.YtiafochainjglaaGreatDoor.drp.atc
end
