/-
  OWN WORK, A PART: an abstract machine for the program's text that the kernel can run, and the proof that it is sound: what it answers is what the program answers; contracts of functions by it. No condition.
-/
import Derived.Shelf.SlMaps.Clone
import Derived.Test.YtiafochainjglaaGreatDoorWaF
import Derived.Test.YtiafochainjglaaGreatDoorMtA
import Derived.Test.YtiafochainjglaaGreatDoorMtH
import Derived.KernelRfl
import Derived.Test.YtiafochainjglaaGreatDoorKaK
section
open Go Go.Ax Go.Proofs Go.RowKit
namespace Go.Proofs.YtiafochainjglaaGreatDoor.mpc
noncomputable def sumClone (j:Nat):CallT:=fun f args st=>bif Nat.beq j f then (match args with
 | [.map (some i)]=>(match st.h.get i with
  | some (.map es c)=>some (.map (some st.next),st.add (.map es c))
  | _=>none)
 | _=>none) else none
theorem sumClone_ok {P:Program} {ρ:Go.Shelf.Ren} (L:SlLaysW.n5 P ρ):CallsOK P (sumClone (ρ.f 5)):=by
 intro B w0 f args st r h ι w args' hsr hv
 unfold sumClone at h
 cases hf:Nat.beq (ρ.f 5) f
 ·simp[hf] at h
 simp only[hf,cond_true] at h
 have:=nbeq hf
 subst this
 have hent:(callFunc (ρ.f 5) args').run P w=.ok (.enter (ρ.f 5) args') w:=(L.f5.enters rfl:Enters P (ρ.f 5)) _ _
 split at h
 ·rename_i i
  split at h
  ·rename_i es c hm
   simp only[Option.some.injEq] at h
   subst h
   have hsz:=hv.size
   match args',hsz with
   | ⟨[a']⟩,_ =>
   cases hv.at_ 0 _ _ rfl rfl with
   | map _ Lc hL =>
    obtain⟨L',o,g1,g2,g3⟩:=hsr.obj i _ hm (by simp)
    rw[hL] at g1;cases g1
    have g3':=g3
    obtain⟨es',rfl,q1,q2⟩:=g3
    refine⟨hent,callsIn_wide.2 ((AnyW.maps_Clone L Lc.b es' c w g2).mono fun e w' ⟨he,hw⟩=>?_)⟩
    subst hw
    obtain⟨a1,a2,a3⟩:=hsr.alloc (.map es c) (.map es' c) 0 ⟨es',rfl,q1,q2⟩
    exact⟨_,_,he,a2,a1,.map _ _ a3⟩
  ·cases h
 ·cases h
end Go.Proofs.YtiafochainjglaaGreatDoor.mpc
end

section
open Go Go.Ax Go.Proofs
namespace Go.Proofs.YtiafochainjglaaGreatDoor.drp.cp
open dsk (EK)
set_option linter.unusedVariables false
noncomputable def fnsV:List (Nat×Func):=[(74,Tryz.f74),(75,Tryz.f75),(23,Tryz.f23),(64,Tryz.f64),(20,Tryz.f20),(67,Tryz.f67),(22,Tryz.f22)]
noncomputable def EQv:Env:=envEx Tryz.prog [0,3,4,5,37,43,54,60,102,103,104,111] fnsV []
noncomputable def c75:Code:=Option.getD Tryz.f75.body .skip
noncomputable def c74:Code:=Option.getD Tryz.f74.body .skip
noncomputable def L74:Code:=lopB (blkB (seqR (seqL (dropC 1 c74))))
noncomputable def c23:Code:=Option.getD Tryz.f23.body .skip
noncomputable def L23:Code:=lopB (blkB (seqR (seqL (dropC 2 c23))))
noncomputable def c22:Code:=Option.getD Tryz.f22.body .skip
noncomputable def L22:Code:=lopB (blkB (seqR (seqL (dropC 1 c22))))
noncomputable def tNc (q:CallT) (d l m n i:Nat) (C:Cap) (B:List Nat) (S S1 S2:ASt):Tr (Exit×AFr×ASt):=(TM EK (onlyC [73,56,74,75,68] q) [(20,⟨[9,3,13,18,19,4095,4094],[5,14],[],[]⟩),(64,⟨[9],[],[],[]⟩),(67,⟨[7],[],[],[]⟩)] fl0 60).ex ⟨[4,9,11,14,18,19,20,24,26,27,4095],[],[],[]⟩ none c75 {m:=putArgs [.ptr (some (d,0)),.int .i64 (.ofNat i)] 0 .e,n:=28,defs:=[]} S
noncomputable abbrev kCfF_0:=TM EQv noSum [(20,⟨[9,3,13,18,19,4095,4094],[5,14],[],[]⟩),(64,⟨[9],[],[],[]⟩),(67,⟨[7],[],[],[]⟩)] fl0 60
noncomputable def tE0 (l l2 n:Nat) (C C2:Cap) (S:ASt):Tr (Exit×AFr×ASt):=kCfF_0.ex ⟨[10],[],[],[]⟩ none (preC 1 c74) {m:=putArgs [.slice (some (l,0)) n C,.slice (some (l2,0)) n C2] 0 .e,n:=26,defs:=[]} S
noncomputable def tE1 (l l2 n:Nat) (C C2:Cap) (S:ASt):Tr (Exit×AFr×ASt):=kCfF_0.ex ⟨[],[],[],[]⟩ none (seqL (seqL (dropC 1 c74))) (xFr [(0,.slice (some (l,0)) n C),(1,.slice (some (l2,0)) n C2)] 26) S
noncomputable def tEb (l l2 n i:Nat) (C C2:Cap) (B:List Nat) (S:ASt):Tr (Exit×AFr×ASt):=kCfF_0.ex ⟨[14,18,19,22,23,24,25,4094],[],[],[]⟩ none L74 (xFr [(0,.slice (some (l,0)) n C),(1,.slice (some (l2,0)) n C2),(12,.int .i64 (.ofNat n)),(13,.int .i64 (.ofNat i))] 26) S
noncomputable def tEx (l l2 n i:Nat) (C C2:Cap) (S:ASt):Tr (Exit×AFr×ASt):=kCfF_0.ex ⟨[14,18,19,22,23,24,25,4094],[],[],[]⟩ none L74 (xFr [(0,.slice (some (l,0)) n C),(1,.slice (some (l2,0)) n C2),(12,.int .i64 (.ofNat n)),(13,.int .i64 (.ofNat i))] 26) S
noncomputable def tE9 (l n:Nat) (C:Cap) (S:ASt):Tr (Exit×AFr×ASt):=kCfF_0.ex ⟨[],[],[],[]⟩ none (dropC 2 c74) (xFr [(0,.slice (some (l,0)) n C)] 26) S
noncomputable abbrev kCfF_2 (a:CallT):=TM EQv (onlyC [73,56,74,75,68] a) [(20,⟨[9,3,13,18,19,4095,4094],[5,14],[],[]⟩),(64,⟨[9],[],[],[]⟩),(67,⟨[7],[],[],[]⟩)] fl0 60
noncomputable def tS0 (q:CallT) (d o l l2 m m2 n:Nat) (C C2:Cap) (S:ASt):Tr (Exit×AFr×ASt):=(kCfF_2 q).ex ⟨[23,27,33,37,38,4094],[8,12],[],[]⟩ none (preC 2 c23) {m:=putArgs [.ptr (some (d,0)),.ptr (some (o,0))] 0 .e,n:=69,defs:=[]} S
noncomputable def tS1 (d o l n:Nat) (C:Cap) (S:ASt):Tr (Exit×AFr×ASt):=kCfF_0.ex ⟨[43],[],[],[]⟩ none (seqL (seqL (dropC 2 c23))) (xFr [(0,.ptr (some (d,0))),(1,.ptr (some (o,0))),(5,.bool true)] 69) S
noncomputable def tSb (q:CallT) (d o l2 n i:Nat) (C2:Cap) (B:List Nat) (S:ASt):Tr (Exit×AFr×ASt):=(kCfF_2 q).ex ⟨[46,54,56,61,64,65,67],[],[],[]⟩ none L23 (xFr [(0,.ptr (some (d,0))),(1,.ptr (some (o,0))),(5,.bool true),(44,.int .i64 (.ofNat n)),(45,.int .i64 (.ofNat i))] 69) S
noncomputable def tSx (q:CallT) (d o n i:Nat) (S:ASt):Tr (Exit×AFr×ASt):=(kCfF_2 q).ex ⟨[46,54,56,61,64,65,67],[],[],[]⟩ none L23 (xFr [(0,.ptr (some (d,0))),(1,.ptr (some (o,0))),(5,.bool true),(44,.int .i64 (.ofNat n)),(45,.int .i64 (.ofNat i))] 69) S
noncomputable def tS9 (S:ASt):Tr (Exit×AFr×ASt):=kCfF_0.ex ⟨[],[],[],[]⟩ none (dropC 3 c23) (xFr [(5,.bool true)] 69) S
noncomputable def tCp (q:CallT) (d l m n k0 k1 k2:Nat) (S S1 S2 S3 S4 S5 S6:ASt):Tr (AV×ASt):=(kCfF_2 q).call 20 [.ptr (some (d,0))] S
noncomputable def tK0 (d:Nat) (S:ASt):Tr (Exit×AFr×ASt):=kCfF_0.ex ⟨[],[],[],[]⟩ none (preC 1 c22) {m:=putArgs [.ptr (some (d,0))] 0 .e,n:=24,defs:=[]} S
noncomputable def tK1 (d:Nat) (S:ASt):Tr (Exit×AFr×ASt):=kCfF_0.ex ⟨[],[],[],[]⟩ none (seqL (seqL (dropC 1 c22))) (xFr [(0,.ptr (some (d,0))),(3,.slice none 0 (.known 0))] 24) S
noncomputable def tKb (q:CallT) (d n i k0 k1:Nat) (A:AV) (B:List Nat) (S S1 S2 S3:ASt):Tr (Exit×AFr×ASt):=(kCfF_2 q).ex ⟨[9,10,16,5,20,22,12,4095],[],[],[]⟩ none L22 (xFr [(0,.ptr (some (d,0))),(3,A),(4,.int .i64 (.ofNat i))] 24) S
noncomputable def tKx (q:CallT) (d n i:Nat) (A:AV) (S:ASt):Tr (Exit×AFr×ASt):=(kCfF_2 q).ex ⟨[9,10,16,5,20,22,12,4095],[],[],[]⟩ none L22 (xFr [(0,.ptr (some (d,0))),(3,A),(4,.int .i64 (.ofNat i))] 24) S
noncomputable def tK9 (A:AV) (S:ASt):Tr (Exit×AFr×ASt):=kCfF_0.ex ⟨[],[],[],[]⟩ none (dropC 2 c22) (xFr [(3,A)] 24) S
noncomputable abbrev kCfF_1 (a:Nat):=AV.int .i64 (.ofNat a)
theorem vcNc (q:CallT) (d l m n i:Nat) (C:Cap) (B:List Nat) (S S1 S2:ASt) (Q:Exit×AFr×ASt→Prop) :
 Vq (tNc q d l m n i C B S S1 S2) (fun r=>Q (rawR [4] r)) (aa (aAlloc EK 54 S) (.ptr (some (S.next,0)),S1) (al (aLoad EK 102 (.ptr (some (d,1)))) S1 (.map (some m)) (as_ S1 (aLookup EK 102 (.map (some m)) (kCfF_1 i) false S1) (.slice none 0 (.known 0)) (as_ S1 (aBin EK .gtr 3 (.tmp 13) (.const (.int .i64 0)) (kCfF_1 0) (kCfF_1 0)) (.bool false) (al (aLoad EK 60 (.ptr (some (d,0)))) S1 (.slice (some (l,0)) n C) (as_ S1 (aIndexAddr EK 60 (.slice (some (l,0)) n C) (kCfF_1 i)) (.ptr (some (l,i*256))) (al (aLoad EK 54 (.ptr (some (l,i*256)))) S1 (.agg (bl B)) (aa (Option.map (fun s=>(undefA,s)) (aStore EK 54 (.ptr (some (S.next,0))) (.agg (bl B)) S1)) (.tuple [],S2) (aq (Q (.ret,xFr [(4,.ptr (some (S.next,0)))] 28,S2))))))))))):=vq (by kernel_rfl)
theorem vcE0 (l l2 n:Nat) (C C2:Cap) (S:ASt) (Q:Exit×AFr×ASt→Prop) :
 Vq (tE0 l l2 n C C2 S) (fun r=>Q (rawR [0,1] r)) (as_ S (aBin EQv .neq 3 (.tmp 7) (.tmp 9) (kCfF_1 n) (kCfF_1 n)) (.bool false) (aq (Q (.normal,xFr [(0,.slice (some (l,0)) n C),(1,.slice (some (l2,0)) n C2)] 26,S)))):=vq (by kernel_rfl)
theorem vcE1 (l l2 n:Nat) (C C2:Cap) (S:ASt) (Q:Exit×AFr×ASt→Prop) :
 Vq (tE1 l l2 n C C2 S) (fun r=>Q (rawR [0,1,12,13] r)) (aq (Q (.normal,xFr [(0,.slice (some (l,0)) n C),(1,.slice (some (l2,0)) n C2),(12,.int .i64 (.ofNat n)),(13,.int .i64 (.ofNat 0))] 26,S))):=vq (by kernel_rfl)
noncomputable abbrev kCfF_5 (a:ASt) (b:Nat):=ASt.mk a.h (a.next+b)
theorem vcEb (l l2 n i:Nat) (C C2:Cap) (B:List Nat) (S:ASt) (Q:Exit×AFr×ASt→Prop) :
 Vq (tEb l l2 n i C C2 B S) (fun r=>Q (rawR [0,1,12,13] r)) (as_ S (aBin EQv .lss 3 (.tmp 13) (.tmp 12) (kCfF_1 i) (kCfF_1 n)) (.bool true) (as_ (kCfF_5 S 9) (aIndexAddr EQv 60 (.slice (some (l,0)) n C) (kCfF_1 i)) (.ptr (some (l,i*256))) (al (aLoad EQv 54 (.ptr (some (l,i*256)))) (kCfF_5 S 9) (.agg (bl B)) (as_ (kCfF_5 S 9) (aIndexAddr EQv 60 (.slice (some (l2,0)) n C2) (kCfF_1 i)) (.ptr (some (l2,i*256))) (al (aLoad EQv 54 (.ptr (some (l2,i*256)))) (kCfF_5 S 9) (.agg (bl B)) (as_ (kCfF_5 S 9) (aBin EQv .neq 54 (.tmp 19) (.tmp 23) (.agg (bl B)) (.agg (bl B))) (.bool false) (as_ (kCfF_5 S 9) (aBin EQv .add 3 (.tmp 13) (.const (.int .i64 1)) (kCfF_1 i) (kCfF_1 1)) (.int .i64 (.ofNat (i+1))) (aq (Q (.normal,xFr [(0,.slice (some (l,0)) n C),(1,.slice (some (l2,0)) n C2),(12,.int .i64 (.ofNat n)),(13,.int .i64 (.ofNat (i+1)))] 26,ASt.mk S.h (S.next+9))))))))))):=vq (by kernel_rfl)
theorem vcEx (l l2 n i:Nat) (C C2:Cap) (S:ASt) (Q:Exit×AFr×ASt→Prop) :
 Vq (tEx l l2 n i C C2 S) (fun r=>Q (rawR [0] r)) (as_ S (aBin EQv .lss 3 (.tmp 13) (.tmp 12) (kCfF_1 i) (kCfF_1 n)) (.bool false) (aq (Q (.exit 0,xFr [(0,.slice (some (l,0)) n C)] 26,S)))):=vq (by kernel_rfl)
theorem vcE9 (l n:Nat) (C:Cap) (S:ASt) (Q:Exit×AFr×ASt→Prop) :
 Vq (tE9 l n C S) (fun r=>Q (rawR [4] r)) (aq (Q (.ret,xFr [(4,.bool true)] 26,S))):=vq (by kernel_rfl)
noncomputable abbrev kCfF_3 (a b c:Nat):=aLoad EQv a (AV.ptr (some (b,c)))
noncomputable abbrev kCfF_4 (a:CallT) (b:Nat):=M EQv (drawA EQv) (onlyC [73,56,74,75,68] a) b
theorem vcS0 (q:CallT) (d o l l2 m m2 n:Nat) (C C2:Cap) (S:ASt) (Q:Exit×AFr×ASt→Prop) :
 Vq (tS0 q d o l l2 m m2 n C C2 S) (fun r=>Q (rawR [0,1,5] r)) (al (kCfF_3 102 d 1) S (.map (some m)) (al (kCfF_3 102 o 1) S (.map (some m2)) (al (kCfF_3 4 d 5) (kCfF_5 S 21) (.bool false) (al (kCfF_3 4 o 5) (kCfF_5 S 21) (.bool false) (al (kCfF_3 60 d 0) (kCfF_5 S 21) (.slice (some (l,0)) n C) (al (kCfF_3 60 o 0) (kCfF_5 S 21) (.slice (some (l2,0)) n C2) (al ((kCfF_4 q 57).call 74 [.slice (some (l,0)) n C,.slice (some (l2,0)) n C2]) (kCfF_5 S 21) (.bool true) (ah (holdsO []) (aq (Q (.normal,xFr [(0,.ptr (some (d,0))),(1,.ptr (some (o,0))),(5,.bool true)] 69,ASt.mk S.h (S.next+21)))))))))))):=vq (by kernel_rfl)
theorem vcS1 (d o l n:Nat) (C:Cap) (S:ASt) (Q:Exit×AFr×ASt→Prop) :
 Vq (tS1 d o l n C S) (fun r=>Q (rawR [0,1,5,44,45] r)) (al (kCfF_3 60 d 0) S (.slice (some (l,0)) n C) (aq (Q (.normal,xFr [(0,.ptr (some (d,0))),(1,.ptr (some (o,0))),(5,.bool true),(44,.int .i64 (.ofNat n)),(45,.int .i64 (.ofNat 0))] 69,S)))):=vq (by kernel_rfl)
theorem vcSb (q:CallT) (d o l2 n i:Nat) (C2:Cap) (B:List Nat) (S:ASt) (Q:Exit×AFr×ASt→Prop) :
 Vq (tSb q d o l2 n i C2 B S) (fun r=>Q (rawR [0,1,5,44,45] r)) (as_ S (aBin EQv .lss 3 (.tmp 45) (.tmp 44) (kCfF_1 i) (kCfF_1 n)) (.bool true) (al (kCfF_3 60 o 0) S (.slice (some (l2,0)) n C2) (as_ S (aBin EQv .lss 3 (.tmp 50) (.tmp 55) (kCfF_1 i) (kCfF_1 n)) (.bool true) (al ((kCfF_4 q 54).call 75 [.ptr (some (d,0)),.int .i64 (.ofNat i)]) S (.agg (bl B)) (al ((kCfF_4 q 54).call 75 [.ptr (some (o,0)),.int .i64 (.ofNat i)]) S (.agg (bl B)) (as_ S (aBin EQv .eql 54 (.tmp 61) (.tmp 64) (.agg (bl B)) (.agg (bl B))) (.bool true) (as_ S (aBin EQv .add 3 (.tmp 45) (.const (.int .i64 1)) (kCfF_1 i) (kCfF_1 1)) (.int .i64 (.ofNat (i+1))) (aq (Q (.normal,xFr [(0,.ptr (some (d,0))),(1,.ptr (some (o,0))),(5,.bool true),(44,.int .i64 (.ofNat n)),(45,.int .i64 (.ofNat (i+1)))] 69,S)))))))))):=vq (by kernel_rfl)
theorem vcSx (q:CallT) (d o n i:Nat) (S:ASt) (Q:Exit×AFr×ASt→Prop) :
 Vq (tSx q d o n i S) (fun r=>Q (rawR [5] r)) (as_ S (aBin EQv .lss 3 (.tmp 45) (.tmp 44) (kCfF_1 i) (kCfF_1 n)) (.bool false) (aq (Q (.exit 0,xFr [(5,.bool true)] 69,S)))):=vq (by kernel_rfl)
theorem vcS9 (S:ASt) (Q:Exit×AFr×ASt→Prop) :
 Vq (tS9 S) (fun r=>Q (rawR [4] r)) (aq (Q (.ret,xFr [(4,.bool true)] 69,S))):=vq (by kernel_rfl)
theorem vcCp (q:CallT) (d l m n k0 k1 k2:Nat) (S S1 S2 S3 S4 S5 S6:ASt) (Q:AV×ASt→Prop) :
 Vq (tCp q d l m n k0 k1 k2 S S1 S2 S3 S4 S5 S6) Q (al (kCfF_3 102 d 1) S (.map (some m)) (al (kCfF_3 104 d 0) S (.agg [.slice (some (l,0)) n (.known n),.map (some m),.int .i64 (.ofNat 0),.bool false,.bool false,.bool false]) (aa (aAlloc EQv 104 S) (.ptr (some (k0,0)),S1) (aa (Option.map (fun s=>(undefA,s)) (aStore EQv 104 (.ptr (some (k0,0))) (.agg [.slice (some (l,0)) n (.known n),.map (some m),.int .i64 (.ofNat 0),.bool false,.bool false,.bool false]) S1)) (.tuple [],S2) (al (kCfF_3 60 d 0) (kCfF_5 S2 14) (.slice (some (l,0)) n (.known n)) (aa (aBuiltinM EQv .append [60,60] [.slice (some (S2.next+14,0)) 0 (.known 0),.slice (some (l,0)) n (.known n)] (ASt.put (ASt.mk S2.h (S2.next+14+1)) (S2.next+14) (.cells [] true))) (.slice (some (k1,0)) n (.rest 256),S3) (al (kCfF_3 102 d 1) S3 (.map (some m)) (aa ((kCfF_4 q 54).call 68 [.map (some m)] S3) (.map (some k2),S4) (aa (Option.map (fun s=>(undefA,s)) (aStore EQv 60 (.ptr (some (k0,0))) (.slice (some (k1,0)) n (.rest 256)) S4)) (.tuple [],S5) (aa (Option.map (fun s=>(undefA,s)) (aStore EQv 102 (.ptr (some (k0,1))) (.map (some k2)) S5)) (.tuple [],S6) (ah (holdsO [(fstO (aLoad EQv 102 (.ptr (some (d,1))) (kCfF_5 S2 14)),.map (some m))]) (aq (Q (.ptr (some (k0,0)),S6)))))))))))))):=vq (by kernel_rfl)
theorem vcK0 (d:Nat) (S:ASt) (Q:Exit×AFr×ASt→Prop) :
 Vq (tK0 d S) (fun r=>Q (rawR [0,3] r)) (aq (Q (.normal,xFr [(0,.ptr (some (d,0))),(3,.slice none 0 (.known 0))] 24,S))):=vq (by kernel_rfl)
theorem vcK1 (d:Nat) (S:ASt) (Q:Exit×AFr×ASt→Prop) :
 Vq (tK1 d S) (fun r=>Q (rawR [0,3,4] r)) (aq (Q (.normal,xFr [(0,.ptr (some (d,0))),(3,.slice none 0 (.known 0)),(4,.int .i64 (.ofNat 0))] 24,S))):=vq (by kernel_rfl)
theorem vcKb (q:CallT) (d n i k0 k1:Nat) (A:AV) (B:List Nat) (S S1 S2 S3:ASt) (Q:Exit×AFr×ASt→Prop) :
 Vq (tKb q d n i k0 k1 A B S S1 S2 S3) (fun r=>Q (rawR [0,3,4] r)) (al ((kCfF_4 q 57).call 73 [.ptr (some (d,0))]) S (kCfF_1 n) (as_ S (aBin EQv .lss 3 (.tmp 7) (.tmp 9) (kCfF_1 i) (kCfF_1 n)) (.bool true) (al ((kCfF_4 q 55).call 56 [.ptr (some (d,0)),.int .i64 (.ofNat i)]) S (.tuple [.agg (bl B),.int .i64 (.ofNat 0)]) (aa (aAlloc EQv 54 S) (.ptr (some (k0,0)),S1) (aa (Option.map (fun s=>(undefA,s)) (aStore EQv 54 (.ptr (some (k0,0))) (.agg (bl B)) S1)) (.tuple [],S2) (al (kCfF_3 54 k0 0) S2 (.agg (bl B)) (aa (aBuiltinM EQv .append [60,60] [A,.slice (some (S2.next,0)) 1 (.known 1)] (ASt.add S2 (.cells (bl B) true))) (.slice (some (k1,0)) (i+1) (.rest 256),S3) (as_ S3 (aBin EQv .add 3 (.tmp 11) (.const (.int .i64 1)) (kCfF_1 i) (kCfF_1 1)) (.int .i64 (.ofNat (i+1))) (aq (Q (.normal,xFr [(0,.ptr (some (d,0))),(3,.slice (some (k1,0)) (i+1) (.rest 256)),(4,.int .i64 (.ofNat (i+1)))] 24,S3))))))))))):=vq (by kernel_rfl)
theorem vcKx (q:CallT) (d n i:Nat) (A:AV) (S:ASt) (Q:Exit×AFr×ASt→Prop) :
 Vq (tKx q d n i A S) (fun r=>Q (rawR [3] r)) (al ((kCfF_4 q 57).call 73 [.ptr (some (d,0))]) S (kCfF_1 n) (as_ S (aBin EQv .lss 3 (.tmp 7) (.tmp 9) (kCfF_1 i) (kCfF_1 n)) (.bool false) (aq (Q (.exit 0,xFr [(3,A)] 24,S))))):=vq (by kernel_rfl)
theorem vcK9 (A:AV) (S:ASt) (Q:Exit×AFr×ASt→Prop) :
 Vq (tK9 A S) (fun r=>Q (rawR [2] r)) (aq (Q (.ret,xFr [(2,A)] 24,S))):=vq (by kernel_rfl)
end Go.Proofs.YtiafochainjglaaGreatDoor.drp.cp
end

section
open Go Go.Ax Go.Proofs
namespace Go.Proofs.YtiafochainjglaaGreatDoor.drp.cp
open dsk (EK EKok pO rowB En ents entO vers curB Disk dK sB al_b look_old look_new ld_m gtr0 sub1 sl_s ld_row split_at vers_nil rowB_len)
set_option linter.unusedVariables false
theorem EQok2:Env.Ok Tryz.prog EQv:=envEx_ok (xs:=[]) ⟨⟨Tryz.func74,Tryz.call74⟩,⟨Tryz.func75,Tryz.call75⟩,⟨Tryz.func23,Tryz.call23⟩,⟨Tryz.func64,Tryz.call64⟩,⟨Tryz.func20,Tryz.call20⟩,⟨Tryz.func67,Tryz.call67⟩,⟨Tryz.func22,Tryz.call22⟩,trivial⟩ trivial (by kernel_rfl)
def dC (l m n:Nat) (C:Cap):AO:=.cells [.slice (some (l,0)) n C,.map (some m),.int .i64 (.ofNat 0),.bool false,.bool false,.bool false] true
structure Dc (S:ASt) (d l m:Nat) (C:Cap) (las:List (List Nat)) (es:List En) (ck:Nat):Prop where
 hd:S.h.get d=some (dC l m las.length C)
 hl:S.h.get l=some (.cells (rowB las) true)
 hm:S.h.get m=some (.map (ents es) ck)
 row:∀e,e∈es→S.h.get e.r=some (.cells (rowB e.vs) true)∧e.vs≠[]
 keys:(es.map (·.k)).Nodup
 few:∀i,(vers es i).length<1000000
theorem Dc.keep {S S':ASt} {d l m ck:Nat} {C:Cap} {las:List (List Nat)} {es:List En} (h:Dc S d l m C las es ck) (ht:Tidy S) (hk:∀k,k<S.next→S'.h.get k=S.h.get k):Dc S' d l m C las es ck :=
 ⟨by rw[hk _ (ht.lt h.hd)];exact h.hd,by rw[hk _ (ht.lt h.hl)];exact h.hl,by rw[hk _ (ht.lt h.hm)];exact h.hm,fun e he=>⟨by rw[hk _ (ht.lt (h.row e he).1)];exact (h.row e he).1,(h.row e he).2⟩,h.keys,h.few⟩
theorem Dc.of {base n c:Nat} {S0 S:ASt} {d l m:Nat} {las:List (List Nat)} {es:List En} (h:Dv base S0 S d l m n c las es) (hc:c<1000000):∃ck,Dc S d l m (.known n) las es ck:=by
 obtain⟨ck,hd⟩:=h.dk
 exact⟨ck,by rw[hd.hd,h.len];rfl,hd.hl,hd.hm,fun e he=>⟨(hd.row e he).1,(hd.row e he).2.1⟩,hd.keys,fun i=>Nat.lt_of_le_of_lt (h.few i) hc⟩
section
variable {S:ASt} {d l m ck i:Nat} {C:Cap} {las:List (List Nat)} {es:List En}
theorem now_c (hD:Dc S d l m C las es ck) (ht:Tidy S) (hi:i<las.length):Call1 Tryz.prog 75 [.ptr (some (d,0)),.int .i64 (.ofNat i)] S (.agg (bl (curB las es i)),S):=by
 have vp:refsV S.next (.agg (bl (curB las es i))):=agg_p (fun v hv=>by unfold bl at hv;obtain⟨y,_,rfl⟩:=List.mem_map.1 hv;simp[cellU,refsV])
 have o0:=Ov.nil ht
 obtain⟨S1,e1,o1⟩:=o0.add (.cells (bl []) true)
 obtain⟨S2,e2,o2⟩:=o1.stA (E:=EK) (t:=54) (i:=0) (k:=S.next) (o:=0) (z:=256) (vs:=bl (curB las es i)) [] (bl []) [] (by simp) (by kernel_rfl) rfl (bl_len _) (bl_len _)
 have D1:=hD.keep ht o1.old
 have al:aAlloc EK 54 S=some (.ptr (some (S.next,0)),S1):=by rw[e1];exact al_b
 have fin:Left EK Tryz.f75 28 S (.agg (bl (curB las es i))) (.ret,xFr [(4,.ptr (some (S.next,0)))] 28,S2) :=
  Left.of (rs:=[.cell 4 54]) o2 rfl (by kernel_rfl) rfl (res_cell (x:=.ptr (some (S.next,0))) (by kernel_rfl) (o2.ldA (i:=0) (z:=256) (o:=0) (k:=S.next) (cs:=bl (curB las es i)) (by simp) (by kernel_rfl) (by have:=takeL_all (X:=bl (curB las es i));rw[bl_len] at this;exact this)) res_nil) rfl
 by_cases hex:∃e,e∈es∧e.k=i
 ·obtain⟨A,e,Cc,hes,hek,hA,hC,hver⟩:=split_at hD.keys hex
  obtain⟨p1,p2⟩:=D1.row e (by rw[hes];simp)
  obtain⟨k,hk⟩:∃k,e.vs.length=k+1:=⟨e.vs.length - 1,by have:=List.length_pos_iff.2 p2;omega⟩
  have hlast:e.vs[k]? = some (curB las es i):=by
   unfold curB
   rw[hver,List.getLast?_eq_getElem?,hk,Nat.add_sub_cancel,List.getElem?_eq_getElem (by omega)]
   rfl
  have hm1:=D1.hm
  rw[hes] at hm1
  have lo:=look_old hm1 hek hA
  rw[hk] at lo
  have hf:=hD.few i
  rw[hver] at hf
  refine Call1.exDrop EKok noSum_ok (fn:=Tryz.f75) (c:=dsk.cN) (by kernel_rfl) (by kernel_rfl) (by kernel_rfl) (N:=28) (by kernel_rfl) rfl (kf:=[4]) (by kernel_rfl) vp (Eq.mp (dsk.vcNo d l m las.length i e.r k (curB las es i) S S1 S2 (Left EK Tryz.f75 28 S (.agg (bl (curB las es i))))) ?_)
  exact⟨al,load_at (by kernel_rfl) D1.hd rfl,lo,by rw[gtr0];simp,sub1 (by omega),dsk.ix_s (by omega),ld_row p1 hlast,e2,fin⟩
 ·have hno:∀e,e∈es→e.k≠i:=fun e he x=>hex ⟨e,he,x⟩
  have hcur:las[i]? = some (curB las es i):=by
   unfold curB
   rw[vers_nil hno]
   simp[hi]
  refine exD Tryz.f75 c75 28 [4] EKok (onlyC_ok noSum_ok) vp (Eq.mp (vcNc noSum d l m las.length i C (curB las es i) S S1 S2 (Left EK Tryz.f75 28 S (.agg (bl (curB las es i))))) ?_)
  exact⟨al,load_at (by kernel_rfl) D1.hd rfl,look_new D1.hm hno,by rw[gtr0];rfl,load_at (by kernel_rfl) D1.hd rfl,dsk.ix_s hi,ld_row D1.hl hcur,e2,fin⟩
end
section
variable {Y:ASt} {a b:Nat} {x y:Operand}
theorem lssV2:still Y (aBin EQv .lss 3 x y (.int .i64 (.ofNat a)) (.int .i64 (.ofNat b)))=some (.bool (decide (a<b)),Y):=by
 have e:aBin EQv .lss 3 x y (.int .i64 (.ofNat a)) (.int .i64 (.ofNat b))=some (.bool (ltF (.ofNat a) (.ofNat b))):=by kernel_rfl
 rw[ltF_nn] at e
 exact still_of e
theorem neqV2:still Y (aBin EQv .neq 3 x y (.int .i64 (.ofNat a)) (.int .i64 (.ofNat a)))=some (.bool false,Y):=by
 have e:aBin EQv .neq 3 x y (.int .i64 (.ofNat a)) (.int .i64 (.ofNat a))=some (.bool (!eqF (.ofNat a) (.ofNat a))):=by kernel_rfl
 rw[oo.eqF_nn,decide_eq_true rfl] at e
 exact still_of e
theorem addV2 (h:a+b<1000000):still Y (aBin EQv .add 3 x y (.int .i64 (.ofNat a)) (.int .i64 (.ofNat b)))=some (.int .i64 (.ofNat (a+b)),Y):=by
 have e:aBin EQv .add 3 x y (.int .i64 (.ofNat a)) (.int .i64 (.ofNat b))=some (.int .i64 (wrapF .i64 (.ofNat a+.ofNat b))):=by kernel_rfl
 rw[show (Int.ofNat a+Int.ofNat b)=Int.ofNat (a+b) from rfl,wrap_nat (by omega)] at e
 exact still_of e
theorem ixV2 {r n i:Nat} {C:Cap} (h:i<n):still Y (aIndexAddr EQv 60 (.slice (some (r,0)) n C) (.int .i64 (.ofNat i)))=some (.ptr (some (r,i*256)),Y):=by
 have:=still_idx (st:=Y) (i:=r) (o:=0) (c:=C) (kd:=.i64) (show sliceT EQv 60=some 256 from by kernel_rfl) h
 rw[Nat.zero_add] at this;exact this
theorem ldV2 {k j:Nat} {L:List (List Nat)} {b:List Nat} {rw:Bool} (h:Y.h.get k=some (.cells (rowB L) rw)) (hj:L[j]? = some b):aLoad EQv 54 (.ptr (some (k,j*256))) Y=some (.agg (bl b),Y):=load_agg (by kernel_rfl) h (fm_one bl_len hj)
end
theorem neqBB {S:ASt} {x y:Operand} (B:List Nat):still S (aBin EQv .neq 54 x y (.agg (bl B)) (.agg (bl B)))=some (.bool false,S):=by
 have e:aBin EQv .neq 54 x y (.agg (bl B)) (.agg (bl B))=(match eqLs (fun _ x y=>aEq0 (.int .u8) x y) 5 256 (bl B) (bl B) with | some r=>some (.bool (!r)) | none=>none):=by kernel_rfl
 have h:=cd3.eqLs_N (cd3.blV B) (cd3.blV B) (by rw[cd3.blV_len])
 rw[←cd3.bl_V,cd3.blV_len,decide_eq_true rfl] at h
 rw[h] at e
 exact still_of e
theorem eqlBB {S:ASt} {x y:Operand} (B:List Nat):still S (aBin EQv .eql 54 x y (.agg (bl B)) (.agg (bl B)))=some (.bool true,S):=by
 have e:aBin EQv .eql 54 x y (.agg (bl B)) (.agg (bl B))=(match eqLs (fun _ x y=>aEq0 (.int .u8) x y) 5 256 (bl B) (bl B) with | some r=>some (.bool r) | none=>none):=by kernel_rfl
 have h:=cd3.eqLs_N (cd3.blV B) (cd3.blV B) (by rw[cd3.blV_len])
 rw[←cd3.bl_V,cd3.blV_len,decide_eq_true rfl] at h
 rw[h] at e
 exact still_of e
theorem shE:dropC 1 c74=.seq (.seq (seqL (seqL (dropC 1 c74))) (.block 0 (.loop L74))) (dropC 2 c74):=by kernel_rfl
theorem shS:dropC 2 c23=.seq (.seq (seqL (seqL (dropC 2 c23))) (.block 0 (.loop L23))) (dropC 3 c23):=by kernel_rfl
theorem shK:dropC 1 c22=.seq (.seq (seqL (seqL (dropC 1 c22))) (.block 0 (.loop L22))) (dropC 2 c22):=by kernel_rfl
section
variable {S:ASt} {l l2 n:Nat} {C C2:Cap} {L:List (List Nat)}
noncomputable def fE (l l2 n:Nat) (C C2:Cap) (i:Nat):AFr:=xFr [(0,.slice (some (l,0)) n C),(1,.slice (some (l2,0)) n C2),(12,.int .i64 (.ofNat n)),(13,.int .i64 (.ofNat i))] 26
theorem equal_p (h1:S.h.get l=some (.cells (rowB L) true)) (h2:S.h.get l2=some (.cells (rowB L) true)) (hn:L.length=n) (hn2:n<100000):Call1 Tryz.prog 74 [.slice (some (l,0)) n C,.slice (some (l2,0)) n C2] S (.bool true,S):=by
 refine Call1.tripDrop EQok2 (fn:=Tryz.f74) (c:=c74) (by kernel_rfl) (by kernel_rfl) (by kernel_rfl) (N:=26) (by kernel_rfl) (bool_p ..) (by simp[refsD]) ?_
 refine Trip.preR EQok2 noSum_ok (k:=1) (kf:=[0,1]) (by kernel_rfl) (Q1:=fun z=>z=(.normal,xFr [(0,.slice (some (l,0)) n C),(1,.slice (some (l2,0)) n C2)] 26,S)) (Eq.mp (vcE0 l l2 n C C2 S (fun z=>z=(.normal,xFr [(0,.slice (some (l,0)) n C),(1,.slice (some (l2,0)) n C2)] 26,S))) ⟨neqV2,rfl⟩) ?_ (fun q h1 h2=>absurd (congrArg (·.1) h2) h1)
 rintro F Z hZ
 cases hZ
 rw[shE]
 refine Trip.seq (R:=fun z=>z.1=.normal∧z.2.1=xFr [(0,.slice (some (l,0)) n C)] 26∧∀k,k<S.next→z.2.2.h.get k=S.h.get k) ?_ (fun F Z hz=>?_) (fun e F Z he hz=>absurd hz.1 he)
 ·refine Trip.seq (R:=fun z=>z=(.normal,fE l l2 n C C2 0,S)) (Trip.ofR EQok2 noSum_ok (kf:=[0,1,12,13]) (Q1:=fun z=>z=(.normal,fE l l2 n C C2 0,S)) (Eq.mp (vcE1 l l2 n C C2 S (fun z=>z=(.normal,fE l l2 n C C2 0,S))) rfl) (fun e F Z h=>h)) (fun F Z hz=>?_) (fun e F Z he hz=>by cases hz;exact absurd rfl he)
  cases hz
  refine Trip.block (Trip.loop (fun m fr st=>∃i,i≤n∧m=n - i∧fr=fE l l2 n C C2 i∧st.h=S.h) ?_ n ⟨0,Nat.zero_le _,rfl,rfl,rfl⟩)
  rintro m fr st ⟨i,hi,rfl,rfl,hst⟩
  by_cases h:i<n
  ·obtain⟨B,hB⟩:∃B,L[i]? = some B:=⟨L[i]'(by omega),List.getElem?_eq_getElem (by omega)⟩
   refine Trip.ofR EQok2 noSum_ok (kf:=[0,1,12,13]) (Q1:=fun z=>z=(.normal,fE l l2 n C C2 (i+1),ASt.mk st.h (st.next+9))) (Eq.mp (vcEb l l2 n i C C2 B st (fun z=>z=(.normal,fE l l2 n C C2 (i+1),ASt.mk st.h (st.next+9)))) ⟨by rw[lssV2,decide_eq_true h],ixV2 h,ldV2 (by show st.h.get l=_;rw[hst];exact h1) hB,ixV2 h,ldV2 (by show st.h.get l2=_;rw[hst];exact h2) hB,neqBB B,addV2 (by omega),rfl⟩) (fun e F Z hq=>?_)
   cases hq
   exact⟨n - (i+1),fE l l2 n C C2 (i+1),ASt.mk st.h (st.next+9),by omega,Wk.refl _ _ _,i+1,h,rfl,rfl,hst⟩
  ·have:i=n:=by omega
   subst this
   refine Trip.ofR EQok2 noSum_ok (kf:=[0]) (Q1:=fun z=>z=(.exit 0,xFr [(0,.slice (some (l,0)) i C)] 26,st)) (Eq.mp (vcEx l l2 i i C C2 st (fun z=>z=(.exit 0,xFr [(0,.slice (some (l,0)) i C)] 26,st))) ⟨by rw[lssV2,decide_eq_false h],rfl⟩) (fun e F Z hq=>?_)
   cases hq
   exact⟨fun _=>⟨rfl,rfl,fun k _=>by rw[hst]⟩,fun h=>absurd rfl h⟩
 ·obtain⟨_,g2,g3⟩:=hz
  simp only at g2 g3
  subst g2
  exact Trip.ofR EQok2 noSum_ok (kf:=[4]) (Eq.mp (vcE9 l n C Z (Left EQv Tryz.f74 26 S (.bool true))) ⟨.inr rfl,rfl,leave_of (rs:=[.tmp 4]) (by kernel_rfl) rfl (res_tmp (by kernel_rfl) res_nil) rfl,g3⟩) (fun e F X hq=>hq)
end
section
variable {S:ASt} {d o l l2 m m2 n ck ck2:Nat} {C C2:Cap} {las:List (List Nat)} {es:List En}
noncomputable def fS (d o n i:Nat):AFr:=xFr [(0,.ptr (some (d,0))),(1,.ptr (some (o,0))),(5,.bool true),(44,.int .i64 (.ofNat n)),(45,.int .i64 (.ofNat i))] 69
theorem same_p (hD:Dc S d l m C las es ck) (hO:Dc S o l2 m2 C2 las es ck2) (hn:las.length=n) (hn2:n<100000) (ht:Tidy S):Call1 Tryz.prog 23 [.ptr (some (d,0)),.ptr (some (o,0))] S (.bool true,S):=by
 have hq:CallsOK Tryz.prog (fun f args st=>open Classical in if f=74∧args=[.slice (some (l,0)) n C,.slice (some (l2,0)) n C2]∧st.h=S.h then some (.bool true,st) else if f=75∧Tidy st∧st.h=S.h then (match args with
   | [p,.int .i64 (.ofNat i)]=>if (p=.ptr (some (d,0))∨p=.ptr (some (o,0)))∧i<n then some (.agg (bl (curB las es i)),st) else none
   | _=>none) else none):=fun B w0 f args st r hr ι w args' hsr hv=>by
  dsimp only at hr
  split at hr
  ·rename_i hh
   obtain⟨rfl,rfl,hst⟩:=hh
   simp only[Option.some.injEq] at hr
   subst hr
   exact equal_p (L:=las) (by rw[hst];exact hD.hl) (by rw[hst];exact hO.hl) hn hn2 B w0 ι w args' hsr hv
  ·split at hr
   ·rename_i hh
    obtain⟨rfl,htt,hst⟩:=hh
    split at hr
    ·split at hr
     ·rename_i hp
      obtain⟨hp,hi⟩:=hp
      simp only[Option.some.injEq] at hr
      subst hr
      rcases hp with rfl | rfl
      ·exact now_c (i:=_) ⟨by rw[hst];exact hD.hd,by rw[hst];exact hD.hl,by rw[hst];exact hD.hm,fun e he=>by rw[hst];exact hD.row e he,hD.keys,hD.few⟩ htt (by omega) B w0 ι w args' hsr hv
      ·exact now_c (i:=_) ⟨by rw[hst];exact hO.hd,by rw[hst];exact hO.hl,by rw[hst];exact hO.hm,fun e he=>by rw[hst];exact hO.row e he,hO.keys,hO.few⟩ htt (by omega) B w0 ι w args' hsr hv
     ·cases hr
    ·cases hr
   ·cases hr
 obtain⟨Q,hQ⟩:∃Q:CallT,Q=(fun (f:Nat) (args:List AV) (st:ASt)=>open Classical in if f=74∧args=[.slice (some (l,0)) n C,.slice (some (l2,0)) n C2]∧st.h=S.h then some (.bool true,st) else if f=75∧Tidy st∧st.h=S.h then (match args with
   | [p,.int .i64 (.ofNat i)]=>if (p=.ptr (some (d,0))∨p=.ptr (some (o,0)))∧i<n then some (.agg (bl (curB las es i)),st) else none
   | _=>none) else none):=⟨_,rfl⟩
 rw[←hQ] at hq
 have c74:∀Y:ASt,Y.h=S.h→Q 74 [.slice (some (l,0)) n C,.slice (some (l2,0)) n C2] Y=some (.bool true,Y):=fun Y hY=>by rw[hQ];simp[hY]
 have cd75:∀Y:ASt,Tidy Y→Y.h=S.h→∀i,i<n→Q 75 [.ptr (some (d,0)),.int .i64 (.ofNat i)] Y=some (.agg (bl (curB las es i)),Y):=fun Y hT hY i hi=>by rw[hQ];simp[hY,hT,hi]
 have co75:∀Y:ASt,Tidy Y→Y.h=S.h→∀i,i<n→Q 75 [.ptr (some (o,0)),.int .i64 (.ofNat i)] Y=some (.agg (bl (curB las es i)),Y):=fun Y hT hY i hi=>by rw[hQ];simp[hY,hT,hi]
 have hd:=hD.hd
 have ho:=hO.hd
 rw[hn] at hd ho
 refine Call1.tripDrop EQok2 (fn:=Tryz.f23) (c:=c23) (by kernel_rfl) (by kernel_rfl) (by kernel_rfl) (N:=69) (by kernel_rfl) (bool_p ..) (by simp[refsD]) ?_
 refine Trip.preR EQok2 (onlyC_ok hq) (k:=2) (kf:=[0,1,5]) (by kernel_rfl) (Q1:=fun z=>z=(.normal,xFr [(0,.ptr (some (d,0))),(1,.ptr (some (o,0))),(5,.bool true)] 69,ASt.mk S.h (S.next+21))) (Eq.mp (vcS0 Q d o l l2 m m2 n C C2 S (fun z=>z=(.normal,xFr [(0,.ptr (some (d,0))),(1,.ptr (some (o,0))),(5,.bool true)] 69,ASt.mk S.h (S.next+21))))
  ⟨load_at (by kernel_rfl) hd rfl,load_at (by kernel_rfl) ho rfl,load_at (by kernel_rfl) (st:=ASt.mk S.h (S.next+21)) hd rfl,load_at (by kernel_rfl) (st:=ASt.mk S.h (S.next+21)) ho rfl,load_at (by kernel_rfl) (st:=ASt.mk S.h (S.next+21)) hd rfl,load_at (by kernel_rfl) (st:=ASt.mk S.h (S.next+21)) ho rfl,ca (c74 _ rfl),trivial,rfl⟩) ?_ (fun q h1 h2=>absurd (congrArg (·.1) h2) h1)
 rintro F Z hZ
 cases hZ
 rw[shS]
 refine Trip.seq (R:=fun z=>z.1=.normal∧z.2.1=xFr [(5,.bool true)] 69∧∀k,k<S.next→z.2.2.h.get k=S.h.get k) ?_ (fun F Z hz=>?_) (fun e F Z he hz=>absurd hz.1 he)
 ·refine Trip.seq (R:=fun z=>z=(.normal,fS d o n 0,ASt.mk S.h (S.next+21))) (Trip.ofR EQok2 noSum_ok (kf:=[0,1,5,44,45]) (Q1:=fun z=>z=(.normal,fS d o n 0,ASt.mk S.h (S.next+21))) (Eq.mp (vcS1 d o l n C (ASt.mk S.h (S.next+21)) (fun z=>z=(.normal,fS d o n 0,ASt.mk S.h (S.next+21)))) ⟨load_at (by kernel_rfl) (st:=ASt.mk S.h (S.next+21)) hd rfl,rfl⟩) (fun e F Z h=>h)) (fun F Z hz=>?_) (fun e F Z he hz=>by cases hz;exact absurd rfl he)
  cases hz
  refine Trip.block (Trip.loop (fun m fr st=>∃i,i≤n∧m=n - i∧fr=fS d o n i∧st=ASt.mk S.h (S.next+21)) ?_ n ⟨0,Nat.zero_le _,rfl,rfl,rfl⟩)
  rintro m fr st ⟨i,hi,rfl,rfl,rfl⟩
  by_cases h:i<n
  ·refine Trip.ofR EQok2 (onlyC_ok hq) (kf:=[0,1,5,44,45]) (Q1:=fun z=>z=(.normal,fS d o n (i+1),ASt.mk S.h (S.next+21))) (Eq.mp (vcSb Q d o l2 n i C2 (curB las es i) (ASt.mk S.h (S.next+21)) (fun z=>z=(.normal,fS d o n (i+1),ASt.mk S.h (S.next+21)))) ⟨by rw[lssV2,decide_eq_true h],load_at (by kernel_rfl) (st:=ASt.mk S.h (S.next+21)) ho rfl,by rw[lssV2,decide_eq_true h],ca (cd75 (ASt.mk S.h (S.next+21)) (ht.mk (Nat.le_add_right _ _)) rfl i h),ca (co75 (ASt.mk S.h (S.next+21)) (ht.mk (Nat.le_add_right _ _)) rfl i h),eqlBB _,addV2 (by omega),rfl⟩) (fun e F Z hq=>?_)
   cases hq
   exact⟨n - (i+1),fS d o n (i+1),ASt.mk S.h (S.next+21),by omega,Wk.refl _ _ _,i+1,h,rfl,rfl,rfl⟩
  ·have:i=n:=by omega
   subst this
   refine Trip.ofR EQok2 (onlyC_ok hq) (kf:=[5]) (Q1:=fun z=>z=(.exit 0,xFr [(5,.bool true)] 69,ASt.mk S.h (S.next+21))) (Eq.mp (vcSx Q d o i i (ASt.mk S.h (S.next+21)) (fun z=>z=(.exit 0,xFr [(5,.bool true)] 69,ASt.mk S.h (S.next+21)))) ⟨by rw[lssV2,decide_eq_false h],rfl⟩) (fun e F Z hq=>?_)
   cases hq
   exact⟨fun _=>⟨rfl,rfl,fun k _=>rfl⟩,fun h=>absurd rfl h⟩
 ·obtain⟨_,g2,g3⟩:=hz
  simp only at g2 g3
  subst g2
  exact Trip.ofR EQok2 noSum_ok (kf:=[4]) (Eq.mp (vcS9 Z (Left EQv Tryz.f23 69 S (.bool true))) ⟨.inr rfl,rfl,leave_of (rs:=[.tmp 4]) (by kernel_rfl) rfl (res_tmp (by kernel_rfl) res_nil) rfl,g3⟩) (fun e F X hq=>hq)
end
end Go.Proofs.YtiafochainjglaaGreatDoor.drp.cp
end

section
open Go Go.Ax Go.Proofs
namespace Go.Proofs.YtiafochainjglaaGreatDoor.drp.cp
open dsk (EK EKok pO rowB En ents entO vers curB Disk dK sB rowB_len)
set_option linter.unusedVariables false
section
open Go.Shelf Go.RowKit
def cloneR:Go.Shelf.Ren:={f:=fun x=>match x with | 5=>68 | 7=>132 | n=>n,t:=fun x=>match x with | 23=>102 | 25=>3 | 3=>60 | 4=>4 | 20=>20 | n=>n,g:=fun x=>x}
theorem cloneM:SlLaysW.n5 Tryz.prog cloneR where
 mixed:=by kernel_rfl
 f5:=⟨ "maps.Clone[map[int][]gemel/api.Block,int,[]gemel/api.Block]", of_decide_eq_true (by kernel_rfl),Tryz.func68.trans (congrArg some (by kernel_rfl))⟩
 f7:=Tryz.func132.trans (congrArg some (by kernel_rfl))
 t4:=Tryz.underlying4
 a4:=Tryz.isAgg4
 z4:=Tryz.sizeOf4
 v4:=Tryz.zeroValue4
 t20:=Tryz.underlying20
 a20:=Tryz.isAgg20
 z20:=Tryz.sizeOf20
 v20:=Tryz.zeroValue20
 t23:=Tryz.underlying102
 a23:=Tryz.isAgg102
 z23:=Tryz.sizeOf102
 v23:=Tryz.zeroValue102
end
theorem clone_ok:CallsOK Tryz.prog (mpc.sumClone 68):=mpc.sumClone_ok cloneM
theorem clone_at {S:ASt} {m ck:Nat} {es:Ents} (h:S.h.get m=some (.map es ck)):mpc.sumClone 68 68 [.map (some m)] S=some (.map (some S.next),S.add (.map es ck)):=by
 unfold mpc.sumClone
 simp only[Nat.beq_refl,cond_true,h]
def zD:List AV:=[.slice none 0 (.known 0),.map none,.int .i64 (.ofNat 0),.bool false,.bool false,.bool false]
section
variable {base d l m n c:Nat} {S0 S:ASt} {las:List (List Nat)} {es:List En}
theorem copy_p (h:Dv base S0 S d l m n c las es) (hc:c<1000000) (hn0:0<n) (hn2:n<100000):∃S' o l2 m2 ck2,Call1 Tryz.prog 20 [.ptr (some (d,0))] S (.ptr (some (o,0)),S')∧Dc S' o l2 m2 (.rest 256) las es ck2∧Tidy S'∧S.next≤S'.next∧∀k,k<S.next→S'.h.get k=S.h.get k:=by
 obtain⟨ck,hD⟩:=Dc.of h hc
 have hd:=hD.hd
 rw[h.len] at hd
 have o0:=Ov.nil h.tidy
 obtain⟨S1,e1,o1⟩:=o0.add (.cells zD true)
 obtain⟨S2,e2,o2⟩:=o1.stA (E:=EQv) (t:=104) (i:=0) (k:=S.next) (o:=0) (z:=6) (vs:=[.slice (some (l,0)) n (.known n),.map (some m),.int .i64 (.ofNat 0),.bool false,.bool false,.bool false]) [] zD [] (by kernel_rfl) (by kernel_rfl) rfl rfl rfl
 have ob:=o2.bump 14
 obtain⟨S2c,ec,oc⟩:=ob.add (.cells [] true)
 obtain⟨S3,e3,o3⟩:=oc.add (.cells (rowB las) true)
 obtain⟨S4,e4,o4⟩:=o3.add (.map (ents es) ck)
 obtain⟨S5,e5,o5⟩:=o4.st1 (E:=EQv) (t:=60) (i:=0) (k:=S.next) (o:=0) (v:=.slice (some (S2c.next,0)) n (.rest 256)) [.slice (some (l,0)) n (.known n),.map (some m),.int .i64 (.ofNat 0),.bool false,.bool false,.bool false] (by kernel_rfl) (by kernel_rfl) (by kernel_rfl) rfl
 obtain⟨S6,e6,o6⟩:=o5.st1 (E:=EQv) (t:=102) (i:=0) (k:=S.next) (o:=1) (v:=.map (some S3.next)) [.slice (some (S2c.next,0)) n (.rest 256),.map (some m),.int .i64 (.ofNat 0),.bool false,.bool false,.bool false] (by kernel_rfl) (by kernel_rfl) (by kernel_rfl) rfl
 have D2:∀{X L},Ov S X L→Dc X d l m (.known n) las es ck:=fun o=>hD.keep h.tidy o.old
 have hdX:∀{X L},Ov S X L→X.h.get d=some (dC l m n (.known n)):=fun o=>by have:=(D2 o).hd;rw[h.len] at this;exact this
 have al:aAlloc EQv 104 S=some (.ptr (some (S.next,0)),S1):=by rw[e1];kernel_rfl
 have hlen:(rowB las).length=n*256:=by rw[rowB_len,h.len]
 have ap:aBuiltinM EQv .append [60,60] [.slice (some (S2.next+14,0)) 0 (.known 0),.slice (some (l,0)) n (.known n)] (ASt.put (ASt.mk S2.h (S2.next+14+1)) (S2.next+14) (AO.cells [] true))=some (.slice (some (S2c.next,0)) n (.rest 256),S3):=by
  have hS:ASt.put (ASt.mk S2.h (S2.next+14+1)) (S2.next+14) (AO.cells [] true)=S2c:=by rw[ec];rfl
  rw[hS,e3]
  exact append_zero_at (b:=256) (by kernel_rfl) rfl (first_at (D2 oc).hl (by have:=takeL_all (X:=rowB las);rw[hlen] at this;exact this)) (show S2c.h.get (S2.next+14)=some (.cells [] true) by rw[ec];exact add_at) hn0 (by omega) (by omega)
 have cl:mpc.sumClone 68 68 [.map (some m)] S3=some (.map (some S3.next),S4):=by rw[e4];exact clone_at (D2 o3).hm
 refine⟨S6,S.next,S2c.next,S3.next,ck,Call1.of_tm EQok2 (onlyC_ok clone_ok) (Eq.mp (vcCp (mpc.sumClone 68) d l m n S.next S2c.next S3.next S S1 S2 S3 S4 S5 S6 (fun z=>z=(.ptr (some (S.next,0)),S6))) ?_),⟨?_,?_,?_,fun e he=>?_,hD.keys,hD.few⟩,o6.tidy,o6.next,o6.old⟩
 ·exact⟨load_at (by kernel_rfl) hd rfl,load_agg (z:=6) (by kernel_rfl) hd (by kernel_rfl),al,e2,load_at (by kernel_rfl) (hdX ob) rfl,ap,load_at (by kernel_rfl) (hdX o3) rfl,ca cl,e5,e6,holds_cons (fst_of (load_at (by kernel_rfl) (hdX ob) rfl)) trivial,rfl⟩
 ·rw[h.len]
  exact (o6.loc 0 (S.next,dC S2c.next S3.next n (.rest 256)) (by kernel_rfl)).2
 ·exact (o6.loc 2 (S2c.next,.cells (rowB las) true) (by kernel_rfl)).2
 ·exact (o6.loc 3 (S3.next,.map (ents es) ck) (by kernel_rfl)).2
 ·exact ((D2 o6).row e he)
noncomputable def kill (N:Nat):Nat→ASt→ASt
 | 0,X=>X
 | j+1,X=>X.put (N+3*j+2) .dead
theorem kill_next (N i:Nat) (X:ASt):(kill N i X).next=X.next:=by cases i<;>rfl
theorem kill_old {N i k:Nat} {X:ASt} (h:k<N):(kill N i X).h.get k=X.h.get k:=by
 cases i with
 | zero=>rfl
 | succ j=>exact put_ne (by omega)
theorem kill_tidy {N i:Nat} {X:ASt} (h:Tidy X) (hn:N+3*i≤X.next):Tidy (kill N i X):=by
 cases i with
 | zero=>exact h
 | succ j=>exact h.put (by omega)
noncomputable def bst (b:Nat→List Nat) (S:ASt):Nat→ASt
 | 0=>S
 | i+1=>(kill S.next i ((((bst b S i).add (.cells (bl []) true)).put (bst b S i).next (.cells (bl (b i)) true)).add (.cells (bl (b i)) true))).add (.cells (rowB ((List.range (i+1)).map b)) true)
def bsl (S:ASt):Nat→AV
 | 0=>.slice none 0 (.known 0)
 | i+1=>.slice (some (S.next+3*i+2,0)) (i+1) (.rest 256)
theorem bst_next (b:Nat→List Nat) (S:ASt):∀i,(bst b S i).next=S.next+3*i
 | 0=>rfl
 | i+1=>by
  have:=bst_next b S i
  unfold bst
  rw[add_next,kill_next,add_next,put_next,add_next]
  omega
theorem bst_tidy (b:Nat→List Nat) {S:ASt} (ht:Tidy S):∀i,Tidy (bst b S i)
 | 0=>ht
 | i+1=>(kill_tidy ((((bst_tidy b ht i).add).put (by rw[add_next];omega)).add) (by rw[add_next,put_next,add_next,bst_next];omega)).add
theorem bst_old (b:Nat→List Nat) (S:ASt):∀i k,k<S.next→(bst b S i).h.get k=S.h.get k
 | 0,k,hk=>rfl
 | i+1,k,hk=>by
  have hn:=bst_next b S i
  have ih:=bst_old b S i k hk
  unfold bst
  rw[add_ne (by rw[kill_next,add_next,put_next,add_next];omega),kill_old hk,add_ne (by rw[put_next,add_next];omega),put_ne (by omega),add_ne (by omega),ih]
theorem bst_row (b:Nat→List Nat) (S:ASt) (i:Nat):(bst b S (i+1)).h.get (S.next+3*i+2)=some (.cells (rowB ((List.range (i+1)).map b)) true):=by
 have hn:=bst_next b S i
 unfold bst
 have e:S.next+3*i+2=(kill S.next i ((((bst b S i).add (.cells (bl []) true)).put (bst b S i).next (.cells (bl (b i)) true)).add (.cells (bl (b i)) true))).next:=by
  rw[kill_next,add_next,put_next,add_next];omega
 rw[e];exact add_at
theorem bl_d {D:Nat→Prop} (b:List Nat):refsDs D (bl b):=refsDs_all.2 fun v hv=>by
 unfold bl at hv
 obtain⟨y,_,rfl⟩:=List.mem_map.1 hv
 simp[cellU,refsD]
theorem rowB_d {D:Nat→Prop} (L:List (List Nat)):refsDs D (rowB L):=refsDs_all.2 fun v hv=>by
 unfold rowB at hv
 obtain⟨b,_,hb⟩:=List.mem_flatMap.1 hv
 exact refsDs_all.1 (bl_d b) v hb
theorem bst_new (b:Nat→List Nat) (S:ASt):∀i k a,(bst b S i).h.get k=some a→S.h.get k=some a∨(S.next≤k∧∀D,refsB D a)
 | 0,k,a,h=>.inl h
 | i+1,k,a,h=>by
  have hn:=bst_next b S i
  unfold bst at h
  rw[add_gets] at h
  split at h
  ·rename_i hk
   cases h
   exact .inr ⟨by rw[hk,kill_next,add_next,put_next,add_next];omega,fun D=>rowB_d _⟩
  have h2:((((bst b S i).add (.cells (bl []) true)).put (bst b S i).next (.cells (bl (b i)) true)).add (.cells (bl (b i)) true)).h.get k=some a∨(S.next≤k∧∀D,refsB D a):=by
   cases i with
   | zero=>exact .inl h
   | succ j =>
    unfold kill at h
    rw[put_gets] at h
    split at h
    ·rename_i hk
     cases h
     exact .inr ⟨by omega,fun D=>trivial⟩
    ·exact .inl h
  rcases h2 with h | h
  ·rw[add_gets] at h
   split at h
   ·rename_i hk
    cases h
    exact .inr ⟨by rw[hk,put_next,add_next];omega,fun D=>bl_d _⟩
   rw[put_gets] at h
   split at h
   ·rename_i hk
    cases h
    exact .inr ⟨by omega,fun D=>bl_d _⟩
   rename_i hk2
   rw[add_ne (by omega)] at h
   exact bst_new b S i k a h
  ·exact .inr h
noncomputable def fK (d:Nat) (A:AV) (i:Nat):AFr:=xFr [(0,.ptr (some (d,0))),(3,A),(4,.int .i64 (.ofNat i))] 24
theorem blocks_at (h:Dsk S d las es) (hn:las.length=n) (hn0:0<n) (hn2:n<100000):Call1 Tryz.prog 22 [.ptr (some (d,0))] S (.slice (some (S.next+3*(n - 1)+2,0)) n (.rest 256),bst (nb las es) S n):=by
 have hq:CallsOK Tryz.prog (diskC d las es):=diskC_ok
 have hk:∀i,Dsk (bst (nb las es) S i) d las es:=fun i=>by
  obtain⟨⟨a,b,c,hd⟩,ht,hf,hb⟩:=h
  exact⟨⟨a,b,c,hd.keep ht (bst_old _ S i)⟩,bst_tidy _ ht i,hf,hb⟩
 refine Call2.up (Call2.of_trip EQok2 (fn:=Tryz.f22) (c:=c22) (by kernel_rfl) (by kernel_rfl) (by kernel_rfl) ?_) (by rw[bst_next];omega) (fun k a hg hd=>?_) (show Go.Ax.Good S _ from .inl (by omega))
 ·refine Trip.preR EQok2 noSum_ok (k:=1) (kf:=[0,3]) (by kernel_rfl) (Q1:=fun z=>z=(.normal,xFr [(0,.ptr (some (d,0))),(3,.slice none 0 (.known 0))] 24,S)) (Eq.mp (vcK0 d S (fun z=>z=(.normal,xFr [(0,.ptr (some (d,0))),(3,.slice none 0 (.known 0))] 24,S))) rfl) ?_ (fun q h1 h2=>absurd (congrArg (·.1) h2) h1)
  rintro F Z hZ
  cases hZ
  rw[shK]
  refine Trip.seq (R:=fun z=>z=(.normal,xFr [(3,bsl S n)] 24,bst (nb las es) S n)) ?_ (fun F Z hz=>?_) (fun e F Z he hz=>by cases hz;exact absurd rfl he)
  ·refine Trip.seq (R:=fun z=>z=(.normal,fK d (bsl S 0) 0,S)) (Trip.ofR EQok2 noSum_ok (kf:=[0,3,4]) (Q1:=fun z=>z=(.normal,fK d (bsl S 0) 0,S)) (Eq.mp (vcK1 d S (fun z=>z=(.normal,fK d (bsl S 0) 0,S))) rfl) (fun e F Z h=>h)) (fun F Z hz=>?_) (fun e F Z he hz=>by cases hz;exact absurd rfl he)
   cases hz
   refine Trip.block (Trip.loop (fun m fr st=>∃i,i≤n∧m=n - i∧fr=fK d (bsl S i) i∧st=bst (nb las es) S i) ?_ n ⟨0,Nat.zero_le _,rfl,rfl,rfl⟩)
   rintro m fr st ⟨i,hi,rfl,rfl,rfl⟩
   have hN:=bst_next (nb las es) S i
   by_cases hin:i<n
   ·obtain⟨X,hX⟩:∃X,X=bst (nb las es) S i:=⟨_,rfl⟩
    have htX:Tidy X:=by rw[hX];exact bst_tidy _ h.tidy i
    have o0:=Ov.nil htX
    obtain⟨S1,e1,o1⟩:=o0.add (.cells (bl []) true)
    have st1:aStore EQv 54 (.ptr (some (X.next,0))) (.agg (bl (nb las es i))) S1=some (S1.put X.next (.cells (bl (nb las es i)) true)):=storeW_at (by kernel_rfl) (bl_len _) (bl_len _) (by rw[e1];exact add_at)
    obtain⟨S2,e2⟩:∃Y,Y=S1.put X.next (.cells (bl (nb las es i)) true):=⟨_,rfl⟩
    obtain⟨S2b,e2b⟩:∃Y,Y=S2.add (.cells (bl (nb las es i)) true):=⟨_,rfl⟩
    have hS3:bst (nb las es) S (i+1)=(kill S.next i S2b).add (.cells (rowB ((List.range (i+1)).map (nb las es))) true):=by rw[e2b,e2,e1,hX];rfl
    have hk2:S2.h.get X.next=some (.cells (bl (nb las es i)) true):=by rw[e2];exact put_at
    have n1:S1.next=X.next+1:=by rw[e1,add_next]
    have n2:S2.next=X.next+1:=by rw[e2,put_next,n1]
    have n2b:S2b.next=X.next+2:=by rw[e2b,add_next,n2]
    have hfir:aFirst S2b 256 1 (.slice (some (S2.next,0)) 1 (.known 1))=some (bl (nb las es i)):=first_at (cs:=bl (nb las es i)) (rw:=true) (by rw[e2b];exact add_at) (by have:=takeL_all (X:=bl (nb las es i));rw[bl_len] at this;exact this)
    have ap:aBuiltinM EQv .append [60,60] [bsl S i,.slice (some (S2.next,0)) 1 (.known 1)] S2b=some (.slice (some (S2b.next,0)) (i+1) (.rest 256),bst (nb las es) S (i+1)):=by
     rw[hS3]
     cases i with
     | zero =>
      rw[show (List.range (0+1)).map (nb las es)=[nb las es 0] from rfl,dsk.rowB_one]
      exact append_nil_at (b:=256) (by kernel_rfl) rfl hfir (by decide) (by omega) (by omega)
     | succ j =>
      have hrow:S2b.h.get (S.next+3*j+2)=some (.cells (rowB ((List.range (j+1)).map (nb las es))) true):=by
       have h0:=bst_row (nb las es) S j
       have hNj:=bst_next (nb las es) S (j+1)
       rw[e2b,add_ne (by rw[n2,hX];omega),e2,put_ne (by rw[hX];omega),e1,add_ne (by rw[hX];omega),hX]
       exact h0
      have e:rowB ((List.range (j+1+1)).map (nb las es))=rowB ((List.range (j+1)).map (nb las es))++bl (nb las es (j+1)):=by
       rw[List.range_succ,List.map_append,dsk.rowB_app,List.map_singleton,dsk.rowB_one]
      rw[e]
      exact append_grow_at (b:=256) (l:=j+1) (by kernel_rfl) rfl hfir hrow (by rw[rowB_len,List.length_map,List.length_range]) (by decide) (by decide) (by omega) (by omega)
    rw[←hX]
    refine Trip.ofR EQok2 (onlyC_ok hq) (kf:=[0,3,4]) (Q1:=fun z=>z=(.normal,fK d (bsl S (i+1)) (i+1),bst (nb las es) S (i+1))) (Eq.mp (vcKb (diskC d las es) d n i X.next S2b.next (bsl S i) (nb las es i) X S1 S2 (bst (nb las es) S (i+1)) (fun z=>z=(.normal,fK d (bsl S (i+1)) (i+1),bst (nb las es) S (i+1)))) ?_) (fun e F Z hq=>?_)
    ·have hkX:Dsk X d las es:=by rw[hX];exact hk i
     refine⟨ca (by have:=diskC_b hkX;rw[hn] at this;exact this),by rw[lssV2,decide_eq_true hin],ca (diskC_r hkX (by omega)),o0.al e1,okS_of (by rw[e2];exact st1),load_agg (z:=256) (by kernel_rfl) hk2 (by have:=takeL_all (X:=bl (nb las es i));rw[bl_len] at this;exact this),by rw[←e2b];exact ap,addV2 (by omega),?_⟩
     rw[show bsl S (i+1)=.slice (some (S2b.next,0)) (i+1) (.rest 256) by rw[n2b,hX,hN];rfl]
     rfl
    ·cases hq
     exact⟨n - (i+1),fK d (bsl S (i+1)) (i+1),bst (nb las es) S (i+1),by omega,Wk.refl _ _ _,i+1,hin,rfl,rfl,rfl⟩
   ·have:i=n:=by omega
    subst this
    refine Trip.ofR EQok2 (onlyC_ok hq) (kf:=[3]) (Q1:=fun z=>z=(.exit 0,xFr [(3,bsl S i)] 24,bst (nb las es) S i)) (Eq.mp (vcKx (diskC d las es) d i i (bsl S i) (bst (nb las es) S i) (fun z=>z=(.exit 0,xFr [(3,bsl S i)] 24,bst (nb las es) S i))) ⟨ca (by have:=diskC_b (hk i);rw[hn] at this;exact this),by rw[lssV2,decide_eq_false hin],rfl⟩) (fun e F Z hq=>?_)
    cases hq
    exact⟨fun _=>rfl,fun h=>absurd rfl h⟩
  ·cases hz
   refine Trip.ofR EQok2 noSum_ok (kf:=[2]) (Q1:=fun z=>z=(.ret,xFr [(2,bsl S n)] 24,bst (nb las es) S n)) (Eq.mp (vcK9 (bsl S n) (bst (nb las es) S n) (fun z=>z=(.ret,xFr [(2,bsl S n)] 24,bst (nb las es) S n))) rfl) (fun e F Z hq=>?_)
   cases hq
   refine⟨.inr rfl,leave_of (rs:=[.tmp 2]) (vs:=[bsl S n]) (by kernel_rfl) rfl (res_tmp (by kernel_rfl) res_nil) ?_⟩
   obtain⟨j,rfl⟩:∃j,n=j+1:=⟨n - 1,by omega⟩
   rfl
 ·rcases bst_new (nb las es) S n k a hg with h1 | ⟨h1,h2⟩
  ·exact .inl h1
  ·exact .inr ⟨.inl h1,h2 _⟩
end
end Go.Proofs.YtiafochainjglaaGreatDoor.drp.cp
end

section
open Go Go.Ax Go.Proofs
namespace Go.Proofs.YtiafochainjglaaGreatDoor.drp.lw
set_option linter.unusedVariables false
noncomputable def fnsW:List (Nat×Func):=[(5,Tryz.f5),(14,Tryz.f14)]
noncomputable def EWl:Env:=envEx Tryz.prog [0,3,4,5,23,24,25,27,28,29,30,31,32,33,34,35,36,37,43,51,54,55,56,60,103,104,111] fnsW []
noncomputable def cW:Code:=Option.getD Tryz.f5.body .skip
noncomputable def LW:Code:=lopB (blkB (seqR (seqL (dropC 2 cW))))
noncomputable def tG1 (z:Int) (S:ASt):Tr (AV×ASt):=(TM EWl noSum [(14,⟨[6,9],[],[],[]⟩)] fl0 60).call 14 [.int .i64 z] S
noncomputable def tG2 (z:Int) (S:ASt):Tr (AV×ASt):=(TM EWl noSum [(14,⟨[6,9],[],[],[]⟩)] fl0 60).call 14 [.int .i64 z] S
noncomputable abbrev kCfJ_2 (a:CallT):=TM EWl (onlyC [9,14,19,20,15,22,21,23,24,11] a) [] fl0 60
noncomputable def tL1 (q:CallT) (z:Int) (P:AV) (S:ASt):Tr (Exit×AFr×ASt):=(kCfJ_2 q).ex ⟨[15,20,21,26,27,33,35,38,40,41,29,43,47,8,52,54,10,57,58,59,63,71,76,77,12,83,84,87,88,95,23,4095,4094],[],[],[]⟩ none cW {m:=putArgs [.int .i64 z,P] 0 .e,n:=97,defs:=[]} S
noncomputable def tL2 (q:CallT) (k n d:Nat) (P:AV) (S S1:ASt):Tr (Exit×AFr×ASt):=(kCfJ_2 q).ex ⟨[15,20,21,26,27,33,35,38,40,41,29,43,47,8,52,54,10,57,58,59,63,71,76,77,12,83,84,87,88,95,23,4095,4094],[],[],[]⟩ none cW {m:=putArgs [.int .i64 (.ofNat k),P] 0 .e,n:=97,defs:=[]} S
noncomputable def tL3 (q:CallT) (k n d:Nat) (P:AV) (S S1:ASt):Tr (Exit×AFr×ASt):=(kCfJ_2 q).ex ⟨[15,20,21,26,27,33,35,38,40,41,29,43,47,8,52,54,10,57,58,59,63,71,76,77,12,83,84,87,88,95,23,4095,4094],[],[],[]⟩ none (preC 2 cW) {m:=putArgs [.int .i64 (.ofNat k),P] 0 .e,n:=97,defs:=[]} S
noncomputable def tL4 (k d:Nat) (P:AV) (S:ASt):Tr (Exit×AFr×ASt):=(TM EWl noSum [] fl0 60).ex ⟨[],[],[],[]⟩ none (seqL (seqL (dropC 2 cW))) (xFr [(0,.int .i64 (.ofNat k)),(1,P),(5,.ptr (some (d,0)))] 97) S
noncomputable def tLb (q:CallT) (k n d i pi:Nat) (a e:Int) (b:List Nat) (P:AV) (S S1:ASt):Tr (Exit×AFr×ASt):=(kCfJ_2 q).ex ⟨[15,20,21,26,27,33,35,38,40,41,29,43,47,8,52,54,10,57,58,59,63,71,76,77,12,83,84,87,88,95,23,4095,4094],[],[],[]⟩ none LW (xFr [(0,.int .i64 (.ofNat k)),(1,P),(5,.ptr (some (d,0))),(6,.int .i64 (.ofNat i))] 97) S
noncomputable def tLx (q:CallT) (k n d i:Nat) (P:AV) (S:ASt):Tr (Exit×AFr×ASt):=(kCfJ_2 q).ex ⟨[15,20,21,26,27,33,35,38,40,41,29,43,47,8,52,54,10,57,58,59,63,71,76,77,12,83,84,87,88,95,23,4095,4094],[],[],[]⟩ none LW (xFr [(0,.int .i64 (.ofNat k)),(1,P),(5,.ptr (some (d,0))),(6,.int .i64 (.ofNat i))] 97) S
noncomputable def tM0 (q:CallT) (d o k t se nu ho k0 k1 r:Nat) (x y:Nat→Nat) (c mk:Bool) (C:Cap) (P:AV) (S S1 S2 S3 S4 S5 S6:ASt):Tr (Exit×AFr×ASt):=(kCfJ_2 q).ex ⟨[15,20,21,26,27,33,35,38,40,41,29,43,47,8,52,54,10,57,58,59,63,71,76,77,12,83,84,87,88,95,23,4095,4094],[],[],[]⟩ none (dropC 3 cW) (xFr [(0,.int .i64 (.ofNat k)),(1,P),(5,.ptr (some (d,0)))] 97) S
noncomputable def tM1 (q:CallT) (d o k t se nu ho k0 k1 k2 r:Nat) (x y:Nat→Nat) (c mk:Bool) (C:Cap) (P:AV) (S S1 S2 S3 S4 S5 S6 S7 S8:ASt):Tr (Exit×AFr×ASt):=(kCfJ_2 q).ex ⟨[15,20,21,26,27,33,35,38,40,41,29,43,47,8,52,54,10,57,58,59,63,71,76,77,12,83,84,87,88,95,23,4095,4094],[],[],[]⟩ none (dropC 3 cW) (xFr [(0,.int .i64 (.ofNat k)),(1,P),(5,.ptr (some (d,0)))] 97) S
noncomputable abbrev kCfJ_1 (a:Nat):=AV.int .i64 (.ofNat a)
theorem vcG1 (z:Int) (S:ASt) (Q:AV×ASt→Prop) :
 Vq (tG1 z S) Q (as_ S (aBin EWl .lss 3 (.tmp 5) (.const (.int .i64 1)) (.int .i64 z) (kCfJ_1 1)) (.bool true) (aq (Q (.ptr none,S)))):=vq (by kernel_rfl)
theorem vcG2 (z:Int) (S:ASt) (Q:AV×ASt→Prop) :
 Vq (tG2 z S) Q (as_ S (aBin EWl .lss 3 (.tmp 5) (.const (.int .i64 1)) (.int .i64 z) (kCfJ_1 1)) (.bool false) (as_ S (aBin EWl .gtr 3 (.tmp 8) (.const (.int .i64 64)) (.int .i64 z) (kCfJ_1 64)) (.bool true) (aq (Q (.ptr none,S))))):=vq (by kernel_rfl)
noncomputable abbrev kCfJ_0 (a:CallT) (b:Nat):=M EWl (drawA EWl) (onlyC [9,14,19,20,15,22,21,23,24,11] a) b
theorem vcL1 (q:CallT) (z:Int) (P:AV) (S:ASt) (Q:Exit×AFr×ASt→Prop) :
 Vq (tL1 q z P S) (fun r=>Q (rawR [4] r)) (al ((kCfJ_0 q 57).call 14 [.int .i64 z]) S (.ptr none) (al ((kCfJ_0 q 53).call 9 []) S (.bool true) (aq (Q (.ret,xFr [(4,.bool true)] 97,S))))):=vq (by kernel_rfl)
theorem vcL2 (q:CallT) (k n d:Nat) (P:AV) (S S1:ASt) (Q:Exit×AFr×ASt→Prop) :
 Vq (tL2 q k n d P S S1) (fun r=>Q (rawR [4] r)) (aa ((kCfJ_0 q 57).call 14 [.int .i64 (.ofNat k)] S) (.ptr (some (d,0)),S1) (al (aBuiltinM EWl .len [51] [P]) S1 (kCfJ_1 n) (as_ S1 (aBin EWl .gtr 3 (.tmp 20) (.const (.int .i64 30)) (kCfJ_1 n) (kCfJ_1 30)) (.bool true) (al ((kCfJ_0 q 53).call 9 []) S1 (.bool true) (aq (Q (.ret,xFr [(4,.bool true)] 97,S1))))))):=vq (by kernel_rfl)
theorem vcL3 (q:CallT) (k n d:Nat) (P:AV) (S S1:ASt) (Q:Exit×AFr×ASt→Prop) :
 Vq (tL3 q k n d P S S1) (fun r=>Q (rawR [0,1,5] r)) (aa ((kCfJ_0 q 57).call 14 [.int .i64 (.ofNat k)] S) (.ptr (some (d,0)),S1) (al (aBuiltinM EWl .len [51] [P]) S1 (kCfJ_1 n) (as_ S1 (aBin EWl .gtr 3 (.tmp 20) (.const (.int .i64 30)) (kCfJ_1 n) (kCfJ_1 30)) (.bool false) (aq (Q (.normal,xFr [(0,.int .i64 (.ofNat k)),(1,P),(5,.ptr (some (d,0)))] 97,S1)))))):=vq (by kernel_rfl)
theorem vcL4 (k d:Nat) (P:AV) (S:ASt) (Q:Exit×AFr×ASt→Prop) :
 Vq (tL4 k d P S) (fun r=>Q (rawR [0,1,5,6] r)) (aq (Q (.normal,xFr [(0,.int .i64 (.ofNat k)),(1,P),(5,.ptr (some (d,0))),(6,.int .i64 (.ofNat 0))] 97,S))):=vq (by kernel_rfl)
theorem vcLb (q:CallT) (k n d i pi:Nat) (a e:Int) (b:List Nat) (P:AV) (S S1:ASt) (Q:Exit×AFr×ASt→Prop) :
 Vq (tLb q k n d i pi a e b P S S1) (fun r=>Q (rawR [0,1,5,6] r)) (al (aBuiltinM EWl .len [51] [P]) S (kCfJ_1 n) (as_ S (aBin EWl .lss 3 (.tmp 24) (.tmp 26) (kCfJ_1 i) (kCfJ_1 n)) (.bool true) (as_ (ASt.mk S.h (S.next+12)) (aIndexAddr EWl 51 P (kCfJ_1 i)) (.ptr (some (pi,0+i*257))) (al (aLoad EWl 3 (.ptr (some (pi,0+i*257+0)))) (ASt.mk S.h (S.next+12)) (.int .i64 a) (as_ (ASt.mk S.h (S.next+12)) (aIndexAddr EWl 51 P (kCfJ_1 i)) (.ptr (some (pi,0+i*257))) (al (aLoad EWl 54 (.ptr (some (pi,0+i*257+1)))) (ASt.mk S.h (S.next+12)) (.agg (bl b)) (aa ((kCfJ_0 q 56).call 19 [.ptr (some (d,0)),.int .i64 a,.agg (bl b)] (ASt.mk S.h (S.next+12))) (.int .i64 e,S1) (ah (holdsO []) (as_ S1 (aBin EWl .add 3 (.tmp 28) (.const (.int .i64 1)) (kCfJ_1 i) (kCfJ_1 1)) (.int .i64 (.ofNat (i+1))) (aq (Q (.normal,xFr [(0,.int .i64 (.ofNat k)),(1,P),(5,.ptr (some (d,0))),(6,.int .i64 (.ofNat (i+1)))] 97,S1)))))))))))):=vq (by kernel_rfl)
theorem vcLx (q:CallT) (k n d i:Nat) (P:AV) (S:ASt) (Q:Exit×AFr×ASt→Prop) :
 Vq (tLx q k n d i P S) (fun r=>Q (rawR [0,1,5] r)) (al (aBuiltinM EWl .len [51] [P]) S (kCfJ_1 n) (as_ S (aBin EWl .lss 3 (.tmp 24) (.tmp 26) (kCfJ_1 i) (kCfJ_1 n)) (.bool false) (aq (Q (.exit 0,xFr [(0,.int .i64 (.ofNat k)),(1,P),(5,.ptr (some (d,0)))] 97,S))))):=vq (by kernel_rfl)
noncomputable abbrev kCfJ_3 (a:Nat):=aLoad EWl 36 (AV.ptr (some (a,0)))
theorem vcM0 (q:CallT) (d o k t se nu ho k0 k1 r:Nat) (x y:Nat→Nat) (c mk:Bool) (C:Cap) (P:AV) (S S1 S2 S3 S4 S5 S6:ASt) (Q:Exit×AFr×ASt→Prop) :
 Vq (tM0 q d o k t se nu ho k0 k1 r x y c mk C P S S1 S2 S3 S4 S5 S6) (fun r=>Q (rawR [4] r)) (aa ((kCfJ_0 q 58).call 20 [.ptr (some (d,0))] S) (.ptr (some (o,0)),S1) (al ((kCfJ_0 q 57).call 15 [.ptr (some (d,0)),.int .i64 (.ofNat k)]) S1 (.tuple [.agg zM,.int .i64 (.ofNat 6)]) (aa (aAlloc EWl 36 S1) (.ptr (some (k0,0)),S2) (aa (Option.map (fun s=>(undefA,s)) (aStore EWl 36 (.ptr (some (k0,0))) (.agg zM) S2)) (.tuple [],S3) (aa ((kCfJ_0 q 56).call 22 [.ptr (some (d,0))] S3) (.slice (some (r,0)) (9+k) C,S4) (al ((kCfJ_0 q 56).call 21 [.slice (some (r,0)) (9+k) C,.int .i64 (.ofNat k)]) S4 (.tuple [.agg zM,.bool false]) (aa (aAlloc EWl 36 S4) (.ptr (some (k1,0)),S5) (aa (Option.map (fun s=>(undefA,s)) (aStore EWl 36 (.ptr (some (k1,0))) (.agg zM) S5)) (.tuple [],S6) (al (kCfJ_3 k0) S6 (.agg zM) (al (kCfJ_3 k1) S6 (.agg zM) (as_ S6 (aBin EWl .neq 36 (.tmp 57) (.tmp 58) (.agg zM) (.agg zM)) (.bool false) (al ((kCfJ_0 q 54).call 23 [.ptr (some (d,0)),.ptr (some (o,0))]) S6 (.bool true) (al ((kCfJ_0 q 51).call 9 []) S6 (.bool true) (aq (Q (.ret,xFr [(4,.bool true)] 97,S6)))))))))))))))):=vq (by kernel_rfl)
theorem vcM1 (q:CallT) (d o k t se nu ho k0 k1 k2 r:Nat) (x y:Nat→Nat) (c mk:Bool) (C:Cap) (P:AV) (S S1 S2 S3 S4 S5 S6 S7 S8:ASt) (Q:Exit×AFr×ASt→Prop) :
 Vq (tM1 q d o k t se nu ho k0 k1 k2 r x y c mk C P S S1 S2 S3 S4 S5 S6 S7 S8) (fun r=>Q (rawR [4] r)) (aa ((kCfJ_0 q 58).call 20 [.ptr (some (d,0))] S) (.ptr (some (o,0)),S1) (al ((kCfJ_0 q 57).call 15 [.ptr (some (d,0)),.int .i64 (.ofNat k)]) S1 (.tuple [.agg (mL k x c y t mk se nu ho),.int .i64 (.ofNat 0)]) (aa (aAlloc EWl 36 S1) (.ptr (some (k0,0)),S2) (aa (Option.map (fun s=>(undefA,s)) (aStore EWl 36 (.ptr (some (k0,0))) (.agg (mL k x c y t mk se nu ho)) S2)) (.tuple [],S3) (aa ((kCfJ_0 q 56).call 22 [.ptr (some (d,0))] S3) (.slice (some (r,0)) (9+k) C,S4) (al ((kCfJ_0 q 56).call 21 [.slice (some (r,0)) (9+k) C,.int .i64 (.ofNat k)]) S4 (.tuple [.agg (mL k x c y t mk se nu ho),.bool true]) (aa (aAlloc EWl 36 S4) (.ptr (some (k1,0)),S5) (aa (Option.map (fun s=>(undefA,s)) (aStore EWl 36 (.ptr (some (k1,0))) (.agg (mL k x c y t mk se nu ho)) S5)) (.tuple [],S6) (al (kCfJ_3 k0) S6 (.agg (mL k x c y t mk se nu ho)) (al (kCfJ_3 k1) S6 (.agg (mL k x c y t mk se nu ho)) (as_ S6 (aBin EWl .neq 36 (.tmp 57) (.tmp 58) (.agg (mL k x c y t mk se nu ho)) (.agg (mL k x c y t mk se nu ho))) (.bool false) (al ((kCfJ_0 q 54).call 23 [.ptr (some (d,0)),.ptr (some (o,0))]) S6 (.bool true) (as_ S6 (aBin EWl .add 3 (.tmp 75) (.const (.int .i64 1)) (kCfJ_1 k) (kCfJ_1 1)) (.int .i64 (.ofNat (k+1))) (al ((kCfJ_0 q 53).call 15 [.ptr (some (d,0)),.int .i64 (.ofNat (k+1))]) S6 (.tuple [.agg zM,.int .i64 (.ofNat 2)]) (aa (aAlloc EWl 36 S6) (.ptr (some (k2,0)),S7) (aa (Option.map (fun s=>(undefA,s)) (aStore EWl 36 (.ptr (some (k2,0))) (.agg zM) S7)) (.tuple [],S8) (al (kCfJ_3 k0) S8 (.agg (mL k x c y t mk se nu ho)) (al ((kCfJ_0 q 52).call 24 [.agg (mL k x c y t mk se nu ho)]) S8 (.bool true) (al (kCfJ_3 k1) S8 (.agg (mL k x c y t mk se nu ho)) (al ((kCfJ_0 q 52).call 11 [.agg (mL k x c y t mk se nu ho)]) S8 (.bool true) (al ((kCfJ_0 q 52).call 9 []) S8 (.bool true) (aq (Q (.ret,xFr [(4,.bool true)] 97,S8)))))))))))))))))))))))):=vq (by kernel_rfl)
end Go.Proofs.YtiafochainjglaaGreatDoor.drp.lw
end

section
open Go Go.Ax Go.Proofs
namespace Go.Proofs.YtiafochainjglaaGreatDoor.drp.lw
open cd9 (pureC pureC_ok pureC_at pureC_no)
open cp sh rt my fm
set_option linter.unusedVariables false
theorem EWok:Env.Ok Tryz.prog EWl:=envEx_ok (xs:=[]) ⟨⟨Tryz.func5,Tryz.call5⟩,⟨Tryz.func14,Tryz.call14⟩,trivial⟩ trivial (by kernel_rfl)
def s0:TypeDesc→AV→Bool
 | .bool,.bool _=>true
 | .int _,.int _ _=>true
 | _,_=>false
def sLs (d:TypeDesc):Nat→List AV→Bool
 | 0,_=>true
 | n+1,x::xs=>s0 d x && sLs d n xs
 | _+1,_=>false
noncomputable def sFs (E:Env) (eq:TypeId→AV→Bool) (xs:List AV):List (TypeId×Nat)→Bool
 | []=>true
 | f::fs=>match aPart E f.1 xs f.2 with
  | some a=>eq f.1 a && sFs E eq xs fs
  | none=>false
noncomputable def sEq (E:Env):Nat→TypeId→AV→Bool
 | 0=>fun _ _=>false
 | d+1=>fun t x =>
  match E.ty.get t with
  | none=>false
  | some ti =>
   match x with
   | .agg xs=>(match ti.desc with
    | .struct _=>bif ti.held then false else sFs E (sEq E d) xs ti.fl
    | .array n e=>(match E.ty.get e with
     | some ei=>bif isAggD ei.desc then false else bif Nat.beq ei.size 1 then sLs ei.desc n xs else false
     | none=>false)
    | _=>false)
   | x=>s0 ti.desc x
theorem s0_ok {d:TypeDesc} {x:AV} (h:s0 d x=true):aEq0 d x x=some true:=by
 cases d<;>cases x<;>simp only[s0,Bool.false_eq_true] at h
 ·rename_i b;cases b<;>rfl
 ·rename_i k z
  simp only[aEq0]
  rw[show kEq k k=true by cases k<;>rfl,eqF_self];rfl
theorem sLs_ok {d:TypeDesc} {e:TypeId}:∀(n:Nat) (xs:List AV),sLs d n xs=true→eqLs (fun _ x y=>aEq0 d x y) e n xs xs=some true
 | 0,xs,h=>rfl
 | n+1,[],h=>by simp[sLs] at h
 | n+1,x::xs,h=>by
  simp only[sLs,Bool.and_eq_true] at h
  simp only[eqLs,s0_ok h.1]
  exact sLs_ok n xs h.2
theorem sFs_ok {E:Env} {eq:TypeId→AV→Bool} {eq2:TypeId→AV→AV→Option Bool} (he:∀t x,eq t x=true→eq2 t x x=some true) (xs:List AV):∀fs,sFs E eq xs fs=true→eqFs E eq2 xs xs fs=some true
 | [],h=>rfl
 | f::fs,h=>by
  simp only[sFs] at h
  simp only[eqFs]
  split at h
  ·rename_i a ha
   rw[Bool.and_eq_true] at h
   rw[ha]
   simp only[he _ _ h.1]
   exact sFs_ok he xs fs h.2
  ·cases h
theorem sEq_ok {E:Env}:∀(d:Nat) (t:TypeId) (x:AV),sEq E d t x=true→aEq E d t x x=some true
 | 0,t,x,h=>by simp[sEq] at h
 | d+1,t,x,h=>by
  unfold sEq at h
  unfold aEq
  cases hti:E.ty.get t with
  | none=>rw[hti] at h;cases h
  | some ti =>
  rw[hti] at h
  cases x with
  | agg xs =>
   simp only at h ⊢
   cases hd:ti.desc with
   | struct fs =>
    rw[hd] at h
    simp only at h ⊢
    cases hh:ti.held
    ·rw[hh,cond_false] at h
     rw[cond_false]
     exact sFs_ok (sEq_ok d) xs _ h
    ·rw[hh,cond_true] at h;cases h
   | array n e =>
    rw[hd] at h
    simp only at h ⊢
    cases hei:E.ty.get e with
    | none=>rw[hei] at h;cases h
    | some ei =>
     rw[hei] at h
     simp only at h ⊢
     cases ha:isAggD ei.desc
     ·rw[ha,cond_false] at h
      rw[cond_false]
      cases hb:Nat.beq ei.size 1
      ·rw[hb,cond_false] at h;cases h
      ·rw[hb,cond_true] at h
       rw[cond_true]
       exact sLs_ok n xs h
     ·rw[ha,cond_true] at h;cases h
   | _=>rw[hd] at h;cases h
  | _=>exact s0_ok h
theorem neqM {S:ASt} {a b:Operand} {k t se nu ho:Nat} {x y:Nat→Nat} {c mk:Bool}:still S (aBin EWl .neq 36 a b (.agg (mL k x c y t mk se nu ho)) (.agg (mL k x c y t mk se nu ho)))=some (.bool false,S):=by
 have e:aBin EWl .neq 36 a b (.agg (mL k x c y t mk se nu ho)) (.agg (mL k x c y t mk se nu ho))=(match aEq EWl 12 36 (.agg (mL k x c y t mk se nu ho)) (.agg (mL k x c y t mk se nu ho)) with | some r=>some (.bool (!r)) | none=>none):=by kernel_rfl
 rw[sEq_ok 12 36 _ (by kernel_rfl)] at e
 exact still_of e
section
variable {Y:ASt} {a b:Nat} {z:Int} {x y:Operand}
theorem lssWz:still Y (aBin EWl .lss 3 x y (.int .i64 z) (.int .i64 (.ofNat 1)))=some (.bool (decide (z<1)),Y):=by
 have e:aBin EWl .lss 3 x y (.int .i64 z) (.int .i64 (.ofNat 1))=some (.bool (ltF z (.ofNat 1))):=by kernel_rfl
 rw[ltF_eq] at e
 exact still_of e
theorem gtrWz:still Y (aBin EWl .gtr 3 x y (.int .i64 z) (.int .i64 (.ofNat 64)))=some (.bool (decide ((64:Int)<z)),Y):=by
 have e:aBin EWl .gtr 3 x y (.int .i64 z) (.int .i64 (.ofNat 64))=some (.bool (ltF (.ofNat 64) z)):=by kernel_rfl
 rw[ltF_eq] at e
 exact still_of e
theorem lssW:still Y (aBin EWl .lss 3 x y (.int .i64 (.ofNat a)) (.int .i64 (.ofNat b)))=some (.bool (decide (a<b)),Y):=by
 have e:aBin EWl .lss 3 x y (.int .i64 (.ofNat a)) (.int .i64 (.ofNat b))=some (.bool (ltF (.ofNat a) (.ofNat b))):=by kernel_rfl
 rw[ltF_nn] at e
 exact still_of e
theorem gtrW:still Y (aBin EWl .gtr 3 x y (.int .i64 (.ofNat a)) (.int .i64 (.ofNat b)))=some (.bool (decide (b<a)),Y):=by
 have e:aBin EWl .gtr 3 x y (.int .i64 (.ofNat a)) (.int .i64 (.ofNat b))=some (.bool (ltF (.ofNat b) (.ofNat a))):=by kernel_rfl
 rw[ltF_nn] at e
 exact still_of e
theorem addW (h:a+b<1000000):still Y (aBin EWl .add 3 x y (.int .i64 (.ofNat a)) (.int .i64 (.ofNat b)))=some (.int .i64 (.ofNat (a+b)),Y):=by
 have e:aBin EWl .add 3 x y (.int .i64 (.ofNat a)) (.int .i64 (.ofNat b))=some (.int .i64 (wrapF .i64 (.ofNat a+.ofNat b))):=by kernel_rfl
 rw[show (Int.ofNat a+Int.ofNat b)=Int.ofNat (a+b) from rfl,wrap_nat (by omega)] at e
 exact still_of e
end
def encP (p:Int×List Nat):List AV:=.int .i64 p.1::bl p.2
theorem encP_len (p:Int×List Nat):(encP p).length=257:=by unfold encP;rw[List.length_cons,bl_len]
theorem takeL_app {A B C:List AV} {o n:Nat} (h1:A.length=o) (h2:B.length=n):takeL (A++(B++C)) o n=some B:=by
 unfold takeL
 have e:((A++(B++C)).drop o).take n=B:=by
  rw[←h1,List.drop_left,←h2,List.take_left]
 rw[e]
 show (bif Nat.beq B.length n then some B else none)=some B
 rw[h2,show Nat.beq n n=true from Nat.beq_refl n];rfl
theorem encP_b {ps:List (Int×List Nat)} {i:Nat} {p:Int×List Nat} (h:ps[i]? = some p):takeL (ps.flatMap encP) (0+i*257+1) 256=some (bl p.2):=by
 obtain⟨hi,rfl⟩:=List.getElem?_eq_some_iff.1 h
 have e:ps=ps.take i++ps[i]::ps.drop (i+1):=by rw[List.getElem_cons_drop,List.take_append_drop]
 have e2:ps.flatMap encP=((ps.take i).flatMap encP++[.int .i64 ps[i].1])++(bl ps[i].2++(ps.drop (i+1)).flatMap encP):=by
  conv=>lhs;rw[e]
  rw[List.flatMap_append,List.flatMap_cons]
  unfold encP
  simp
 rw[e2]
 refine takeL_app ?_ (bl_len _)
 rw[List.length_append,fm_len encP_len,List.length_take,Nat.min_eq_left (by omega)]
 simp
structure Pcs (S:ASt) (P:AV) (ps:List (Int×List Nat)) (pi:Nat) (o:AO):Prop where
 arg:SlArg EWl 51 257 pi ps.length P o (ps.flatMap encP)
 obj:0<ps.length→S.h.get pi=some o∧pi<S.next
 byt:∀p,p∈ps→byL p.2
theorem known_at (S:ASt):Call1 Tryz.prog 9 [] S (.bool true,S):=Call1.of (sumC_ok (l:=[⟨9,[],.bool true⟩]) ⟨metaNil.memo9,trivial⟩) (by kernel_rfl)
theorem formatted_no {z:Int} (h:z<1∨64<z) (S:ASt):Call1 Tryz.prog 14 [.int .i64 z] S (.ptr none,S):=by
 by_cases h1:z<1
 ·exact Call1.of_tm EWok noSum_ok (Eq.mp (vcG1 z S (fun q=>q=(.ptr none,S))) ⟨by rw[lssWz,decide_eq_true h1],rfl⟩)
 ·exact Call1.of_tm EWok noSum_ok (Eq.mp (vcG2 z S (fun q=>q=(.ptr none,S))) ⟨by rw[lssWz,decide_eq_false h1],by rw[gtrWz,decide_eq_true (by omega)],rfl⟩)
theorem shW:dropC 2 cW=.seq (.seq (seqL (seqL (dropC 2 cW))) (.block 0 (.loop LW))) (dropC 3 cW):=by kernel_rfl
noncomputable def fW (k d:Nat) (P:AV) (i:Nat):AFr:=xFr [(0,.int .i64 (.ofNat k)),(1,P),(5,.ptr (some (d,0))),(6,.int .i64 (.ofNat i))] 97
noncomputable def fV (k d:Nat) (P:AV):AFr:=xFr [(0,.int .i64 (.ofNat k)),(1,P),(5,.ptr (some (d,0)))] 97
theorem Ov.trans {S Y Z:ASt} {L:List (Nat×AO)} (o:Ov S Y L) (ht:Tidy Z) (hn:Y.next≤Z.next) (hk:∀k,k<Y.next→Z.h.get k=Y.h.get k):Ov S Z L :=
 ⟨Nat.le_trans o.next hn,fun i p hp=>⟨(o.loc i p hp).1,by rw[hk _ (o.lt hp)];exact (o.loc i p hp).2⟩,o.dist,fun k h=>(hk k (Nat.lt_of_lt_of_le h o.next)).trans (o.old k h),ht⟩
end Go.Proofs.YtiafochainjglaaGreatDoor.drp.lw
end

section
open Go Go.Ax Go.Proofs
namespace Go.Proofs.YtiafochainjglaaGreatDoor.drp.lw
open cd9 (pureC pureC_ok pureC_at pureC_no)
open cp sh rt my fm
set_option linter.unusedVariables false
section
variable {S X:ASt} {d l m k c:Nat} {P:AV}
theorem finL {X:ASt} (h:∀k,k<S.next→X.h.get k=S.h.get k):Left EWl Tryz.f5 97 S (.bool true) (.ret,xFr [(4,.bool true)] 97,X) :=
 ⟨.inr rfl,rfl,leave_of (rs:=[.tmp 4]) (by kernel_rfl) rfl (res_tmp (by kernel_rfl) res_nil) rfl,h⟩
theorem last_p {kb:Nat} (D:DV S.next S d l m (9+k) X c) (hc:c<1000000) (h1:1≤k) (h2:k≤64):Trip Tryz.prog kb none (dropC 3 cW) (fV k d P) X (Left EWl Tryz.f5 97 S (.bool true)):=by
 obtain⟨las,es,hv⟩:=D
 have hlen:=hv.len
 obtain⟨S1,o,l2,m2,ck2,hcopy,hO,ht1,hn1,hk1⟩:=copy_p hv hc (by omega) (by omega)
 have hv1:=hv.keep hn1 ht1 hk1
 have hd1:=hv1.dsk hc
 have hsame1:∀k,k<S.next→S1.h.get k=S.h.get k:=hv1.same
 have oS1:=Ov.nil ht1
 have hok15:=dskC_ok (fun Y (hD:Dsk Y d las es)=>take_p sumsP shortsP hD hlen h1 h2)
 have hok15b:=dskC_ok (fun Y (hD:Dsk Y d las es)=>take_no hD (k:=k+1) (by omega) (by omega) (by omega))
 -- the first of what was taken
 obtain⟨V,hV⟩:∃V,V=metaL HH XX (nb las es) k:=⟨_,rfl⟩
 cases hsay:says HH XX (nb las es)
 ·obtain⟨S2,e2,o2⟩:=oS1.add (.cells zM true)
  obtain⟨S3,e3,o3⟩:=o2.stA (E:=EWl) (t:=36) (i:=0) (k:=S1.next) (o:=0) (z:=32) (vs:=zM) [] zM [] (by kernel_rfl) (by kernel_rfl) rfl rfl rfl
  have hd3:Dsk S3 d las es:=hd1.over o3
  have hb:=blocks_at hd3 hlen (by omega) (by omega)
  obtain⟨S4,e4⟩:∃Y,Y=bst (nb las es) S3 (9+k):=⟨_,rfl⟩
  rw[←e4] at hb
  have ht4:Tidy S4:=by rw[e4];exact bst_tidy _ o3.tidy _
  have hn4:S3.next≤S4.next:=by rw[e4,bst_next];omega
  have hk4:∀k,k<S3.next→S4.h.get k=S3.h.get k:=fun k hk=>by rw[e4];exact bst_old _ _ _ k hk
  have o4:=Ov.trans o3 ht4 hn4 hk4
  have hrow:S4.h.get (S3.next+3*(9+k - 1)+2)=some (.cells (dsk.rowB ((List.range (9+k)).map (nb las es))) true):=by
   rw[e4]
   have:=bst_row (nb las es) S3 (9+k - 1)
   rw[show 9+k - 1+1=9+k by omega] at this
   exact this
  have hr:=rtake_p (C:=.rest 256) (n:=9+k) (k:=k) (b:=nb las es) sumsP shortsP ht4 (by omega) hrow (fun i hi=>by rw[List.getElem?_map,List.getElem?_range (by omega)];rfl) (fun i hi=>hd3.bk i) h2
  obtain⟨S5,e5,o5⟩:=o4.add (.cells zM true)
  obtain⟨S6,e6,o6⟩:=o5.stA (E:=EWl) (t:=36) (i:=1) (k:=S4.next) (o:=0) (z:=32) (vs:=zM) [] zM [] (by kernel_rfl) (by kernel_rfl) rfl rfl rfl
  have hdc:∃ck,Dc S6 d l m (.known (9+k)) las es ck:=by
   obtain⟨ck,h⟩:=Dc.of hv1 hc
   exact⟨ck,h.keep ht1 o6.old⟩
  obtain⟨ck,hdc⟩:=hdc
  have hsm:=same_p hdc (hO.keep ht1 o6.old) hlen (by omega) o6.tidy
  unfold takeV at hok15
  unfold rtakeV at hr
  rw[hsay,cond_false] at hok15 hr
  have hok:=orC_ok (oneC_ok hcopy) (orC_ok hok15 (orC_ok (oneC_ok hb) (orC_ok (oneC_ok hr) (orC_ok (oneC_ok hsm) (pureC_ok known_at)))))
  refine Trip.ofR EWok (onlyC_ok hok) (kf:=[4]) (Q1:=Left EWl Tryz.f5 97 S (.bool true)) (Eq.mp (vcM0 _ d o k 0 0 0 0 S1.next S4.next (S3.next+3*(9+k - 1)+2) (fun _=>0) (fun _=>0) false false (.rest 256) P X S1 S2 S3 S4 S5 S6 (Left EWl Tryz.f5 97 S (.bool true))) ⟨?_,?_,?_,e3,?_,?_,?_,e6,?_,?_,neqM,?_,?_,finL (fun k hk=>(o6.old k (Nat.lt_of_lt_of_le hk (Nat.le_trans hv.next hn1))).trans (hsame1 k hk))⟩) (fun e F Z h=>h)
  ·exact ca (orC_l oneC_at)
  ·exact ca (orC_r (oneC_no (by decide)) (orC_l (dskC_at hd1)))
  ·exact oS1.al e2
  ·exact ca (orC_r (oneC_no (by decide)) (orC_r (dskC_no (by decide)) (orC_l oneC_at)))
  ·exact ca (orC_r (oneC_no (by decide)) (orC_r (dskC_no (by decide)) (orC_r (oneC_no (by decide)) (orC_l oneC_at))))
  ·exact o4.al e5
  ·exact o6.ldA (i:=0) (z:=32) (cs:=zM)
  ·exact o6.ldA (i:=1) (z:=32) (cs:=zM)
  ·exact ca (orC_r (oneC_no (by decide)) (orC_r (dskC_no (by decide)) (orC_r (oneC_no (by decide)) (orC_r (oneC_no (by decide)) (orC_l oneC_at)))))
  ·exact ca (orC_r (oneC_no (by decide)) (orC_r (dskC_no (by decide)) (orC_r (oneC_no (by decide)) (orC_r (oneC_no (by decide)) (orC_r (oneC_no (by decide)) (pureC_at ..))))))
 ·obtain⟨S2,e2,o2⟩:=oS1.add (.cells zM true)
  obtain⟨S3,e3,o3⟩:=o2.stA (E:=EWl) (t:=36) (i:=0) (k:=S1.next) (o:=0) (z:=32) (vs:=metaL HH XX (nb las es) k) [] zM [] (by kernel_rfl) (by kernel_rfl) rfl rfl rfl
  have hd3:Dsk S3 d las es:=hd1.over o3
  have hb:=blocks_at hd3 hlen (by omega) (by omega)
  obtain⟨S4,e4⟩:∃Y,Y=bst (nb las es) S3 (9+k):=⟨_,rfl⟩
  rw[←e4] at hb
  have ht4:Tidy S4:=by rw[e4];exact bst_tidy _ o3.tidy _
  have hn4:S3.next≤S4.next:=by rw[e4,bst_next];omega
  have hk4:∀k,k<S3.next→S4.h.get k=S3.h.get k:=fun k hk=>by rw[e4];exact bst_old _ _ _ k hk
  have o4:=Ov.trans o3 ht4 hn4 hk4
  have hrow:S4.h.get (S3.next+3*(9+k - 1)+2)=some (.cells (dsk.rowB ((List.range (9+k)).map (nb las es))) true):=by
   rw[e4]
   have:=bst_row (nb las es) S3 (9+k - 1)
   rw[show 9+k - 1+1=9+k by omega] at this
   exact this
  have hr:=rtake_p (C:=.rest 256) (n:=9+k) (k:=k) (b:=nb las es) sumsP shortsP ht4 (by omega) hrow (fun i hi=>by rw[List.getElem?_map,List.getElem?_range (by omega)];rfl) (fun i hi=>hd3.bk i) h2
  obtain⟨S5,e5,o5⟩:=o4.add (.cells zM true)
  obtain⟨S6,e6,o6⟩:=o5.stA (E:=EWl) (t:=36) (i:=1) (k:=S4.next) (o:=0) (z:=32) (vs:=metaL HH XX (nb las es) k) [] zM [] (by kernel_rfl) (by kernel_rfl) rfl rfl rfl
  obtain⟨S7,e7,o7⟩:=o6.add (.cells zM true)
  obtain⟨S8,e8,o8⟩:=o7.stA (E:=EWl) (t:=36) (i:=2) (k:=S6.next) (o:=0) (z:=32) (vs:=zM) [] zM [] (by kernel_rfl) (by kernel_rfl) rfl rfl rfl
  have hdc:∃ck,Dc S6 d l m (.known (9+k)) las es ck:=by
   obtain⟨ck,h⟩:=Dc.of hv1 hc
   exact⟨ck,h.keep ht1 o6.old⟩
  obtain⟨ck,hdc⟩:=hdc
  have hsm:=same_p hdc (hO.keep ht1 o6.old) hlen (by omega) o6.tidy
  have hmo:∀Y,Call1 Tryz.prog 24 [.agg (metaL HH XX (nb las es) k)] Y (.bool true,Y):=fun Y=>may_own hsay h1 h2 Y
  have hmr:∀Y,Call1 Tryz.prog 11 [.agg (metaL HH XX (nb las es) k)] Y (.bool true,Y):=fun Y=>may_ref (hd1.bk 4).byt hsay h1 h2 Y
  unfold takeV at hok15
  unfold rtakeV at hr
  rw[hsay,cond_true] at hok15 hr
  have hok:=orC_ok (oneC_ok hcopy) (orC_ok hok15 (orC_ok (oneC_ok hb) (orC_ok (oneC_ok hr) (orC_ok (oneC_ok hsm) (orC_ok (pureC_ok known_at) (orC_ok hok15b (orC_ok (pureC_ok hmo) (pureC_ok hmr))))))))
  have ld0:aLoad EWl 36 (.ptr (some (S1.next,0))) S6=some (.agg (metaL HH XX (nb las es) k),S6):=o6.ldA (i:=0) (z:=32) (cs:=metaL HH XX (nb las es) k)
  have ld1:aLoad EWl 36 (.ptr (some (S4.next,0))) S6=some (.agg (metaL HH XX (nb las es) k),S6):=o6.ldA (i:=1) (z:=32) (cs:=metaL HH XX (nb las es) k)
  have ld08:aLoad EWl 36 (.ptr (some (S1.next,0))) S8=some (.agg (metaL HH XX (nb las es) k),S8):=o8.ldA (i:=0) (z:=32) (cs:=metaL HH XX (nb las es) k)
  have ld18:aLoad EWl 36 (.ptr (some (S4.next,0))) S8=some (.agg (metaL HH XX (nb las es) k),S8):=o8.ldA (i:=1) (z:=32) (cs:=metaL HH XX (nb las es) k)
  refine Trip.ofR EWok (onlyC_ok hok) (kf:=[4]) (Q1:=Left EWl Tryz.f5 97 S (.bool true)) (Eq.mp (vcM1 _ d o k (LKq XX (nb las es)) (seM HH (nb las es) k) (hotF HH (nb las es) 4).1 (hotF HH (nb las es) 4).2 S1.next S4.next S6.next (S3.next+3*(9+k - 1)+2) (LSx HH (nb las es)) (LKx XX (nb las es)) (LSc HH (nb las es)) (mkM HH (nb las es) k) (.rest 256) P X S1 S2 S3 S4 S5 S6 S7 S8 (Left EWl Tryz.f5 97 S (.bool true))) ⟨?_,?_,?_,e3,?_,?_,?_,e6,ld0,ld1,neqM,?_,addW (by omega),?_,?_,e8,ld08,?_,ld18,?_,?_,finL (fun k hk=>(o8.old k (Nat.lt_of_lt_of_le hk (Nat.le_trans hv.next hn1))).trans (hsame1 k hk))⟩) (fun e F Z h=>h)
  ·exact ca (orC_l oneC_at)
  ·exact ca (orC_r (oneC_no (by decide)) (orC_l (dskC_at hd1)))
  ·exact oS1.al e2
  ·exact ca (orC_r (oneC_no (by decide)) (orC_r (dskC_no (by decide)) (orC_l oneC_at)))
  ·exact ca (orC_r (oneC_no (by decide)) (orC_r (dskC_no (by decide)) (orC_r (oneC_no (by decide)) (orC_l oneC_at))))
  ·exact o4.al e5
  ·exact ca (orC_r (oneC_no (by decide)) (orC_r (dskC_no (by decide)) (orC_r (oneC_no (by decide)) (orC_r (oneC_no (by decide)) (orC_l oneC_at)))))
  ·exact ca (orC_r (oneC_no (by decide)) (orC_r (dskC_na (fun h=>by
    have h2:=congrArg (fun l=>l[1]?) h
    simp only[List.getElem?_cons_succ,List.getElem?_cons_zero,Option.some.injEq,AV.int.injEq,true_and] at h2
    have:=Int.ofNat.inj h2
    omega)) (orC_r (oneC_no (by decide)) (orC_r (oneC_no (by decide)) (orC_r (oneC_no (by decide)) (orC_r (pureC_no (by decide)) (orC_l (dskC_at (hd1.over o6)))))))))
  ·exact o6.al e7
  ·exact ca (orC_r (oneC_no (by decide)) (orC_r (dskC_no (by decide)) (orC_r (oneC_no (by decide)) (orC_r (oneC_no (by decide)) (orC_r (oneC_no (by decide)) (orC_r (pureC_no (by decide)) (orC_r (dskC_no (by decide)) (orC_l (pureC_at ..)))))))))
  ·exact ca (orC_r (oneC_no (by decide)) (orC_r (dskC_no (by decide)) (orC_r (oneC_no (by decide)) (orC_r (oneC_no (by decide)) (orC_r (oneC_no (by decide)) (orC_r (pureC_no (by decide)) (orC_r (dskC_no (by decide)) (orC_r (pureC_no (by decide)) (pureC_at ..)))))))))
  ·exact ca (orC_r (oneC_no (by decide)) (orC_r (dskC_no (by decide)) (orC_r (oneC_no (by decide)) (orC_r (oneC_no (by decide)) (orC_r (oneC_no (by decide)) (orC_l (pureC_at ..)))))))
end
section
variable {S:ASt} {P:AV} {ps:List (Int×List Nat)} {pi:Nat} {o:AO}
theorem law_c (ht:Tidy S) (hP:Pcs S P ps pi o) (z:Int):Call1 Tryz.prog 5 [.int .i64 z,P] S (.bool true,S):=by
 by_cases hz:z<1∨64<z
 ·have hok:=orC_ok (oneC_ok (formatted_no hz S)) (pureC_ok known_at)
  exact exD Tryz.f5 cW 97 [4] EWok (onlyC_ok hok) (bool_p ..)
   (Eq.mp (vcL1 _ z P S (Left EWl Tryz.f5 97 S (.bool true))) ⟨ca (orC_l oneC_at),ca (orC_r (oneC_no (by decide)) (pureC_at ..)),finL (fun _ _=>rfl)⟩)
 obtain⟨k,rfl⟩:∃k:Nat,z=.ofNat k:=⟨z.toNat,by simp only[Int.ofNat_eq_natCast];omega⟩
 have h1:1≤k:=by simp only[Int.ofNat_eq_natCast] at hz;omega
 have h2:k≤64:=by simp only[Int.ofNat_eq_natCast] at hz;omega
 obtain⟨S1,d,l,m,c,hf,D1,hc⟩:=formatted_p ht h1 h2
 have hsame:∀{Y c},DV S.next S d l m (9+k) Y c→∀k,k<S.next→Y.h.get k=S.h.get k:=fun D=>by obtain⟨las,es,h⟩:=D;exact h.same
 have hok:=orC_ok (oneC_ok hf) (pureC_ok known_at)
 by_cases h30:30<ps.length
 ·exact exD Tryz.f5 cW 97 [4] EWok (onlyC_ok hok) (bool_p ..)
   (Eq.mp (vcL2 _ k ps.length d P S S1 (Left EWl Tryz.f5 97 S (.bool true))) ⟨ca (orC_l oneC_at),hP.arg.len S1,by rw[gtrW,decide_eq_true h30],ca (orC_r (oneC_no (by decide)) (pureC_at ..)),finL (hsame D1)⟩)
 refine Call1.tripDrop EWok (fn:=Tryz.f5) (c:=cW) (by kernel_rfl) (by kernel_rfl) (by kernel_rfl) (N:=97) (by kernel_rfl) (bool_p ..) (by simp[refsD]) ?_
 refine Trip.preR EWok (onlyC_ok hok) (k:=2) (kf:=[0,1,5]) (by kernel_rfl) (Q1:=fun r=>r=(.normal,fV k d P,S1)) (Eq.mp (vcL3 _ k ps.length d P S S1 (fun r=>r=(.normal,fV k d P,S1))) ⟨ca (orC_l oneC_at),hP.arg.len S1,by rw[gtrW,decide_eq_false h30],rfl⟩) ?_ (fun r h1 h2=>absurd (congrArg (·.1) h2) h1)
 rintro F Y hY
 cases hY
 rw[shW]
 refine Trip.seq (R:=fun r=>r.1=.normal∧r.2.1=fV k d P∧∃c,DV S.next S d l m (9+k) r.2.2 c∧c<1000000) ?_ (fun F Y hr=>?_) (fun e F Y he hr=>absurd hr.1 he)
 ·refine Trip.seq (R:=fun r=>r=(.normal,fW k d P 0,S1)) (Trip.ofR EWok noSum_ok (kf:=[0,1,5,6]) (Q1:=fun r=>r=(.normal,fW k d P 0,S1)) (Eq.mp (vcL4 k d P S1 (fun r=>r=(.normal,fW k d P 0,S1))) rfl) (fun e F Y h=>h)) (fun F Y hr=>?_) (fun e F Y he hr=>by cases hr;exact absurd rfl he)
  cases hr
  refine Trip.block (Trip.loop (fun mm fr st=>∃i,i≤ps.length∧mm=ps.length - i∧fr=fW k d P i∧DV S.next S d l m (9+k) st (c+i)) ?_ ps.length ⟨0,Nat.zero_le _,rfl,rfl,D1⟩)
  rintro mm fr st ⟨i,hi,rfl,rfl,Di⟩
  have hq:CallsOK Tryz.prog (evC S.next S d l m (9+k)):=evC_ok
  by_cases h:i<ps.length
  ·obtain⟨p,hp⟩:∃p,ps[i]? = some p:=⟨ps[i],List.getElem?_eq_getElem h⟩
   have Db:DV S.next S d l m (9+k) (ASt.mk st.h (st.next+12)) (c+i):=Di.keep (Nat.le_add_right _ _) (Di.tidy.mk (Nat.le_add_right _ _)) (fun _ _=>rfl)
   have hob:(ASt.mk st.h (st.next+12)).h.get pi=some (.cells (ps.flatMap encP) false):=by
    obtain⟨q1,q2⟩:=hP.obj (by omega)
    have:=hsame Db pi q2
    rw[this,q1,hP.arg.obj (by omega)]
   have hby:byL p.2:=hP.byt p (List.mem_of_getElem? hp)
   obtain⟨e,S',hw,hg⟩:∃e S',evC S.next S d l m (9+k) 19 [.ptr (some (d,0)),.int .i64 p.1,.agg (bl p.2)] (ASt.mk st.h (st.next+12))=some (.int .i64 e,S')∧DV S.next S d l m (9+k) S' (c+i+1):=by
    by_cases ha:p.1<0∨((9+k:Nat):Int)≤p.1
    ·obtain⟨S',w1,w2⟩:=Db.wn (b:=p.2) ha
     exact⟨_,S',w1,w2.2.2.2 _ Db⟩
    ·obtain⟨j,hj⟩:∃j:Nat,p.1=.ofNat j:=⟨p.1.toNat,by simp only[Int.ofNat_eq_natCast];omega⟩
     obtain⟨S',w1,w2⟩:=Db.wr (i:=j) (b:=p.2) (by omega) (by rw[hj] at ha;simp only[Int.ofNat_eq_natCast] at ha;omega) hby
     rw[←hj] at w1
     exact⟨_,S',w1,w2.2.2.2 _ Db⟩
   refine Trip.ofR EWok (onlyC_ok hq) (kf:=[0,1,5,6]) (Q1:=fun r=>r=(.normal,fW k d P (i+1),S')) (Eq.mp (vcLb (evC S.next S d l m (9+k)) k ps.length d i pi p.1 e p.2 P st S' (fun r=>r=(.normal,fW k d P (i+1),S')))
    ⟨hP.arg.len st,by rw[lssW,decide_eq_true h],still_of (hP.arg.idx i .i64 h),load_at (by kernel_rfl) hob (by rw[Nat.zero_add];exact fm_get encP_len hp rfl),still_of (hP.arg.idx i .i64 h),load_agg (by kernel_rfl) hob (encP_b hp),ca hw,trivial,addW (by omega),rfl⟩) (fun e F Y hr=>?_)
   cases hr
   exact⟨ps.length - (i+1),fW k d P (i+1),S',by omega,Wk.refl _ _ _,i+1,h,rfl,rfl,hg⟩
  ·have:i=ps.length:=by omega
   subst this
   refine Trip.ofR EWok (onlyC_ok hq) (kf:=[0,1,5]) (Q1:=fun r=>r=(.exit 0,fV k d P,st)) (Eq.mp (vcLx (evC S.next S d l m (9+k)) k ps.length d ps.length P st (fun r=>r=(.exit 0,fV k d P,st))) ⟨hP.arg.len st,by rw[lssW,decide_eq_false h],rfl⟩) (fun e F Y hr=>?_)
   cases hr
   exact⟨fun _=>⟨rfl,rfl,_,Di,by omega⟩,fun h=>absurd rfl h⟩
 ·obtain⟨_,g2,c',D',hc'⟩:=hr
  simp only at g2
  subst g2
  exact last_p D' hc' h1 h2
end
end Go.Proofs.YtiafochainjglaaGreatDoor.drp.lw
end
