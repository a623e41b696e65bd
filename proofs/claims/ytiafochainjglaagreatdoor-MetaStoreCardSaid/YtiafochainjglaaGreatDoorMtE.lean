/-
  OWN WORK, A PART: an abstract machine for the program's text that the kernel can run, and the proof that it is sound: what it answers is what the program answers; contracts of functions by it. No condition.
-/
import Derived.Test.YtiafochainjglaaGreatDoorMtC
import Derived.Test.YtiafochainjglaaGreatDoorMtD
import Derived.Test.YtiafochainjglaaGreatDoorMtB
import Derived.Test.YtiafochainjglaaGreatDoorMtA
import Derived.KernelRfl
namespace Go.Proofs.YtiafochainjglaaGreatDoor.drp
open Go Go.Ax Go.Proofs
set_option linter.unusedVariables false
section
open cd cd2 cd3 cd4 cd5 cd9
def unC:AV→Nat
 | .int _ (.ofNat n)=>n
 | _=>0
theorem q1g (B:List Nat):(bl B).map unC=blV B:=by
 rw[qY9,List.map_map];have:(unC∘qAn)=id:=by funext x;rfl
 rw[this,List.map_id]
theorem qRi (B:List Nat) {i:Nat} (h:i<256):(blV B).getD i 0=B.getD i 0:=by
 unfold blV;simp[h]
theorem qYC (B:List Nat) {i:Nat} (h:256≤i):(blV B).getD i 0=0:=by
 rw[List.getD_eq_getElem?_getD,List.getElem?_eq_none (by rw[qIS];exact h)];rfl
theorem qED (B:List Nat):blV (blV B)=blV B:=qTy (qIS B)
theorem q0b (B:List Nat):bl (blV B)=bl B:=by rw[qY9,qED,←qY9]
theorem qRj {B:List Nat} (h:∀i,B.getD i 0<256) (i:Nat):(blV B).getD i 0<256:=by
 rcases Nat.lt_or_ge i 256 with hi | hi
 ·rw[qRi B hi];exact h i
 ·rw[qYC B hi];decide
structure Bk (B:List Nat):Prop where
 full:blV B=B
 byt:∀i,B.getD i 0<256
noncomputable def qVW (k:Nat) (out:List Nat→AV):CallT:=fun f args st=>open Classical in match args with
 | [.agg l]=>if f=k∧Bk (l.map unC)∧l=bl (l.map unC) then some (out (l.map unC),st) else none
 | _=>none
theorem qG8 {k:Nat} {out:List Nat→AV} (h:∀B,(∀i,B.getD i 0<256)→∀S,qAE Tryz.prog k [.agg (bl B)] S (out B,S)):CallsOK Tryz.prog (qVW k out):=fun B0 w0 f args st r hr ι w args' hsr hv=>by
 unfold qVW at hr
 split at hr
 ·rename_i l
  split at hr
  ·rename_i hh;obtain⟨rfl,hb,hl⟩:=hh;simp only[qz1] at hr;subst hr;have:=h _ hb.byt st;rw[←hl] at this;exact this B0 w0 ι w args' hsr hv
  ·cases hr
 ·cases hr
theorem qFb {k:Nat} {out:List Nat→AV} {B:List Nat} (hB:Bk B) (S:ASt):qVW k out k [.agg (bl B)] S=some (out B,S):=by
 have e:(bl B).map unC=B:=(q1g B).trans hB.full;show (open Classical in if k=k∧Bk ((bl B).map unC)∧bl B=bl ((bl B).map unC) then some (out ((bl B).map unC),S) else none)=_;rw[if_pos ⟨rfl,by rw[e];exact hB,by rw[e]⟩,e]
theorem qM5 {k f:Nat} {out:List Nat→AV} {args:List AV} {S:ASt} (h:f≠k):qVW k out f args S=none:=by
 unfold qVW;split
 ·simp[h]
 ·rfl
section
variable (H:List Nat→Nat→Nat) (X:List Nat→Nat) (B:List Nat)
def sL (x:Nat→Nat) (c:Bool):List AV:=[.int .i64 (.ofNat (x 0)),.bool c,.int .u64 (.ofNat (x 1)),.int .u64 (.ofNat (x 2)),.int .u64 (.ofNat (x 3)),.int .u64 (.ofNat (x 4)),.int .u64 (.ofNat (x 5))]
def rL (y:Nat→Nat):List AV:=[.int .u64 (.ofNat (y 0)),.int .u64 (.ofNat (y 1)),.int .u64 (.ofNat (y 2)),.int .u64 (.ofNat (y 3)),.int .u64 (.ofNat (y 4)),.int .u64 (.ofNat (y 5)),.int .u64 (.ofNat (y 6)),.int .u64 (.ofNat (y 7)),.int .u64 (.ofNat (y 8)),.int .u64 (.ofNat (y 9)),.int .u64 (.ofNat (y 10)),.int .u64 (.ofNat (y 11)),.int .u64 (.ofNat (y 12)),.int .u64 (.ofNat (y 13)),.int .u64 (.ofNat (y 14)),.int .u64 (.ofNat (y 15)),.int .u64 (.ofNat (y 16)),.int .i64 (.ofNat (y 17)),.int .i64 (.ofNat (y 18))]
def iS:Bool:=qDa (pn B 4 1) (pn B 14 8) (pn B 22 8) && decide (blV (qAm H (qWB B))=blV B)
def iK:Bool:=qFV X B
def iM:Bool:=decide (blV (qAm H (qFh (pn B 4 8)))=blV B)
def iL:Bool:=decide (blV (qAm H (qFB (pn B 4 8) (qKn B)))=blV B)
def sF:Nat→Nat
 | 0=>pn B 4 1
 | 1=>pn B 14 8
 | 2=>pn B 22 8
 | 3=>pn B 30 8
 | 4=>pn B 38 8
 | _=>pn B 6 8
def sX (k:Nat):Nat:=cond (iS H B) (sF B k) 0
def sC:Bool:=iS H B && qHG B
def rF (k:Nat):Nat:=if k=0 then pn B 12 8 else if k=17 then pn B 20 1 else if k=18 then pn B 21 1 else rY B (k - 1)
def rX (k:Nat):Nat:=cond (iK X B) (rF B k) 0
def rQ:Nat:=cond (iK X B) (pn B 4 8) 0
def mX:Nat:=cond (iM H B) (pn B 4 8) 0
def lN:Nat:=cond (iL H B) (pn B 4 8) 0
def lS:Nat:=cond (iL H B) (qKn B) 0
def er (b:Bool):AV:=.int .i64 (.ofNat (cond b 0 4))
def qZT:AV:=.tuple [.agg (sL (sX H B) (sC H B)),er (iS H B)]
def qZV:AV:=.tuple [.agg (rL (rX X B)),.int .u64 (.ofNat (rQ X B)),er (iK X B)]
def qLz:AV:=.tuple [.int .u64 (.ofNat (mX H B)),er (iM H B)]
def qQN:AV:=.tuple [.int .u64 (.ofNat (lN H B)),.int .u16 (.ofNat (lS H B)),er (iL H B)]
end
section
variable {q q2:CallT} {H:List Nat→Nat→Nat} {X:List Nat→Nat}
theorem q1z (hS:Sums q H) (B:List Nat) (hB:∀i,B.getD i 0<256) (S:ASt):qAE Tryz.prog 169 [.agg (bl B)] S (qZT H B,S):=by
 unfold qZT sX sC;cases h:iS H B
 ·unfold iS at h;cases hm:qDa (pn B 4 1) (pn B 14 8) (pn B 22 8)
  ·exact ofSn hS (qI9 hS) qLM hB hm S
  ·rw[hm,Bool.true_and] at h;exact ofSf hS (qI9 hS) qLM hB hm h S
 ·unfold iS at h;rw[Bool.and_eq_true] at h;exact ofSt hS (qI9 hS) qLM hB h.1 h.2 S
theorem q23 (hS:Shorts q X) (B:List Nat) (hB:∀i,B.getD i 0<256) (S:ASt):qAE Tryz.prog 200 [.agg (bl B)] S (qZV X B,S):=by
 have h0:=ofKO hS hB S;unfold qNJ at h0;unfold qZV rX rQ iK;cases h:qFV X B
 ·rw[if_neg (by rw[h];decide)] at h0;exact h0
 ·rw[if_pos h] at h0;exact h0
theorem qZc (hS:Sums q H) (B:List Nat) (hB:∀i,B.getD i 0<256) (S:ASt):qAE Tryz.prog 57 [.agg (bl B)] S (qLz H B,S):=by
 haveI:Decidable (qOP H B):=Classical.propDecidable _
 have h0:=qQQ hS qLM hB S;unfold qLz mX;cases h:iM H B
 ·rw[if_neg (show ¬qOP H B from (of_decide_eq_false h:¬(blV (qAm H (qFh (pn B 4 8)))=blV B)))] at h0;exact h0
 ·rw[if_pos (show qOP H B from (of_decide_eq_true h:blV (qAm H (qFh (pn B 4 8)))=blV B))] at h0;exact h0
theorem qZh (hS:Sums q H) (B:List Nat) (hB:∀i,B.getD i 0<256) (S:ASt):qAE Tryz.prog 59 [.agg (bl B)] S (qQN H B,S):=by
 haveI:Decidable (qOQ H B):=Classical.propDecidable _
 have h0:=qQR hS qLM hB S;unfold qQN lN lS;cases h:iL H B
 ·rw[if_neg (show ¬qOQ H B from (of_decide_eq_false h:¬(blV (qAm H (qFB (pn B 4 8) (qKn B)))=blV B)))] at h0;exact h0
 ·rw[if_pos (show qOQ H B from (of_decide_eq_true h:blV (qAm H (qFB (pn B 4 8) (qKn B)))=blV B))] at h0;exact h0
end
open dsk in
structure Dsk (S:ASt) (d:Nat) (las:List (List Nat)) (es:List En):Prop where
 ex:∃l m ck,Disk S d l m las es ck
 tidy:Tidy S
 few:∀i,(qDo es i).length<1000000
 byt:∀i j,(qDN las es i).getD j 0<256
theorem Dsk.over {S X:ASt} {d:Nat} {las:List (List Nat)} {es:List dsk.En} {l:List (Nat×AO)} (h:Dsk S d las es) (o:Ov S X l):Dsk X d las es:=by
 obtain⟨⟨a,b,c,hd⟩,ht,hf,hb⟩:=h;exact⟨⟨a,b,c,hd.keep ht o.old⟩,o.tidy,hf,hb⟩
def nb (las:List (List Nat)) (es:List dsk.En) (i:Nat):List Nat:=blV (dsk.qDN las es i)
theorem Dsk.bk {S:ASt} {d:Nat} {las:List (List Nat)} {es:List dsk.En} (h:Dsk S d las es) (i:Nat):Bk (nb las es i):=⟨qED _,qRj (h.byt i)⟩
theorem qZQ {S:ASt} {d i:Nat} {las:List (List Nat)} {es:List dsk.En} (h:Dsk S d las es) (hi:i<las.length):qAE Tryz.prog 56 [.ptr (some (d,0)),.int .i64 (.ofNat i)] S (.tuple [.agg (bl (nb las es i)),.int .i64 (.ofNat 0)],S):=by
 obtain⟨l,m,ck,hd⟩:=h.ex;obtain⟨S',hc,_,_,hk⟩:=dsk.qWV hd h.tidy hi (h.few i);unfold nb;rw[q0b];refine qAE.drop hc hk ?_;have:=qYW (a:=.agg (bl (dsk.qDN las es i))) (b:=.int .i64 (.ofNat 0)) (blP _) (by simp[qAP]);simp only[qAP] at this ⊢;intro c hcc;simp only[List.mem_cons,List.not_mem_nil,or_false] at hcc;rcases hcc with rfl | rfl
 ·simp only[qAP];intro x hx;have:=qRg _ x hx;unfold bl at hx;obtain⟨y,_,rfl⟩:=List.mem_map.1 hx;simp[qAn,qAP]
 ·simp[qAP]
end
section
open dsk
noncomputable def fnsQ:List (Nat×Func):=[(121,Tryz.f121),(54,Tryz.f54),(170,Tryz.f170),(122,Tryz.f122),(55,Tryz.f55),(53,Tryz.f53),(120,Tryz.f120),(73,Tryz.f73),(64,Tryz.f64)]
noncomputable def EQ:Env:=envEx Tryz.prog [0,3,4,5,23,24,25,27,28,29,30,31,32,33,35,36,37,43,54,60,102,103,104,111,170,173] fnsQ []
def fl0:Fl:=⟨[],[],[],[]⟩
def zS:List AV:=sL (fun _=>0) false
def zR:List AV:=rL (fun _=>0)
def zU:List AV:=[.int .u64 (.ofNat 0)]
noncomputable def cSl:Code:=Option.getD Tryz.f121.body .skip
noncomputable def cL0:Code:=Option.getD Tryz.f54.body .skip
noncomputable def cL1:Code:=Option.getD Tryz.f54.body .skip
noncomputable def cLn:Code:=Option.getD Tryz.f54.body .skip
noncomputable def cSo:Code:=Option.getD Tryz.f170.body .skip
noncomputable def cBo:Code:=Option.getD Tryz.f122.body .skip
noncomputable def tBo (q:CallT) (d n k0 k1 q0 q1:Nat) (x0 x1:Nat→Nat) (i0 i1 g:Bool) (S S1 S2 S3 S4 S6 S7 S10 S11 S13 S14 S15 S16 S19 S20 S21 S22 S24 S25 S28 S29 S30 S31 S34 S35:ASt):Tr (Exit×AFr×ASt):=(TM EQ (qA0 [73,170] q) [] fl0 60).ex ⟨[4,5,12,13,23,24,25,40,59,62,63,68,69,4095,4094],[],[43,63],[]⟩ none cBo {m:=qAM [pO d,nI 2] 0 .e,n:=71,defs:=[]} S
noncomputable def cK0:Code:=Option.getD Tryz.f55.body .skip
abbrev qRZ:Fl:=⟨[4,14,7,8,31,34,4095,4094],[],[],[]⟩
abbrev qRY:Fl:=⟨[2,9,4,24,4095,4094],[],[],[]⟩
noncomputable def tK0 (q:CallT) (d k0 k1 k2 q0 q1:Nat) (x0 x1:Nat→Nat) (S S1 S2 S3 S4 S5 S7:ASt):Tr (Exit×AFr×ASt):=(TM EQ (qA0 [122] q) [] fl0 60).ex qRZ none cK0 {m:=qAM [pO d,nI 2] 0 .e,n:=35,defs:=[]} S
noncomputable def cK1:Code:=Option.getD Tryz.f55.body .skip
noncomputable def tK1 (q:CallT) (d k0 k1 k2 q0 q1:Nat) (x0 x1:Nat→Nat) (S S1 S2 S3 S4 S5 S7:ASt):Tr (Exit×AFr×ASt):=(TM EQ (qA0 [122] q) [] fl0 60).ex qRZ none cK1 {m:=qAM [pO d,nI 2] 0 .e,n:=35,defs:=[]} S
noncomputable def cKn:Code:=Option.getD Tryz.f55.body .skip
noncomputable abbrev qBC (a b c:Nat):=qAQ EQ a (AV.ptr (some (b,c)))
noncomputable abbrev qBh (a:ASt) (b:Nat):=ASt.mk a.h (a.next+b)
noncomputable abbrev qFL (a b:Nat):List AV:=[.ptr (some (a,0)),.int .i64 (.ofNat b)]
noncomputable abbrev qEk (a:Nat):=AV.int .u64 (.ofNat a)
noncomputable abbrev qEi (a:Nat):=AV.int .i64 (.ofNat a)
noncomputable abbrev qGg (a b:Nat) (c:Nat→Nat) (d:Bool) (e:ASt):=qAL EQ 29 (AV.ptr (some (a,b))) (AV.agg (sL c d)) e
noncomputable abbrev qF1 (a:CallT) (b:Nat):=M EQ (drawA EQ) (qA0 [56,73,169] a) b
noncomputable abbrev qHw (a:Nat) (b:Nat→Nat) (c:Bool) (d:Nat→Nat) (e:Bool) (f:ASt):=qAL EQ 170 (AV.ptr (some (a,0))) (AV.agg (sL b c++sL d e)) (qBh f 15)
noncomputable abbrev qJt (a:List Nat):=AV.tuple [AV.agg (bl a),AV.int .i64 (.ofNat 0)]
theorem vcSl (q:CallT) (d n k0 k1 k2 k3 k4 k5 k6:Nat) (B0 B1:List Nat) (x0 x1:Nat→Nat) (c0 c1:Bool) (e0 e1:Int) (g:Bool) (S S1 S2 S3 S4 S5 S6 S8 S9 S10 S11 S12 S14 S15 S16 S17 S18 S19 S20 S21 S23 S24:ASt) (Q:qz2) :
 Vq ((TM EQ (qA0 [56,73,169] q) [] fl0 60).ex ⟨[2,11,12,26,6,34,35,8,39,48,52,53,58,4095,4094],[],[42,53],[]⟩ none cSl {m:=qAM [pO d] 0 .e,n:=60,defs:=[]} S) (fun r=>Q (qAx [2,3,4] r)) (aa (qAY EQ 170 S) (.ptr (some (k0,0)),S1) (al ((qF1 q 55).call 73 [.ptr (some (d,0))]) S1 (qEi n) (as_ S1 (qAD EQ .lss 3 (.tmp 11) (.const (.int .i64 2)) (qEi n) (qEi 2)) (.bool false) (al ((qF1 q 46).call 56 (qFL d 0)) S1 (qJt B0) (aa (qAY EQ 54 S1) (.ptr (some (k1,0)),S2) (aa (Option.map (fun s=>(qAC,s)) (qAL EQ 54 (.ptr (some (k1,0))) (.agg (bl B0)) S2)) (.tuple [],S3) (al (qBC 54 k1 0) S3 (.agg (bl B0)) (al ((qF1 q 44).call 169 [.agg (bl B0)]) S3 (.tuple [.agg (sL x0 c0),.int .i64 e0]) (aa (qAY EQ 29 S3) (.ptr (some (k2,0)),S4) (aa (Option.map (fun s=>(qAC,s)) (qGg k2 0 x0 c0 S4)) (.tuple [],S5) (al (qBC 29 k2 0) S5 (.agg (sL x0 c0)) (aa (Option.map (fun s=>(qAC,s)) (qGg k0 0 x0 c0 S5)) (.tuple [],S6) (ai (eqF e0 (.ofNat 0)) (al ((qF1 q 46).call 56 (qFL d 1)) (qBh S6 15) (qJt B1) (aa (qAY EQ 54 (qBh S6 15)) (.ptr (some (k3,0)),S8) (aa (Option.map (fun s=>(qAC,s)) (qAL EQ 54 (.ptr (some (k3,0))) (.agg (bl B1)) S8)) (.tuple [],S9) (al (qBC 54 k3 0) S9 (.agg (bl B1)) (al ((qF1 q 44).call 169 [.agg (bl B1)]) S9 (.tuple [.agg (sL x1 c1),.int .i64 e1]) (aa (qAY EQ 29 S9) (.ptr (some (k4,0)),S10) (aa (Option.map (fun s=>(qAC,s)) (qGg k4 0 x1 c1 S10)) (.tuple [],S11) (al (qBC 29 k4 0) S11 (.agg (sL x1 c1)) (aa (Option.map (fun s=>(qAC,s)) (qGg k0 7 x1 c1 S11)) (.tuple [],S12) (ai (eqF e1 (.ofNat 0)) (al (qBC 24 k4 6) (qBh S12 15) (qEk (x1 5)) (al (qBC 24 k0 6) (qBh S12 15) (qEk (x0 5)) (as_ (qBh S12 15) (qAD EQ .gtr 24 (.tmp 48) (.tmp 52) (qEk (x1 5)) (qEk (x0 5))) (.bool g) (ai g (al (qBC 170 k0 0) (qBh S12 15) (.agg (sL x0 c0++sL x1 c1)) (aa (Option.map (fun s=>(qAC,s)) (qHw k0 x0 c0 x1 c1 S12)) (.tuple [],S14) (aq (Q (.ret,xFr [(2,.ptr (some (k0,0))),(3,.int .i64 (.ofNat 1)),(4,.int .i64 (.ofNat 0))] 60,S14))))) (al (qBC 170 k0 0) (qBh S12 15) (.agg (sL x0 c0++sL x1 c1)) (aa (Option.map (fun s=>(qAC,s)) (qHw k0 x0 c0 x1 c1 S12)) (.tuple [],S15) (aq (Q (.ret,xFr [(2,.ptr (some (k0,0))),(3,.int .i64 (.ofNat 0)),(4,.int .i64 (.ofNat 0))] 60,S15))))))))) (al (qBC 170 k0 0) (qBh S12 15) (.agg (sL x0 c0++sL x1 c1)) (aa (Option.map (fun s=>(qAC,s)) (qHw k0 x0 c0 x1 c1 S12)) (.tuple [],S16) (aq (Q (.ret,xFr [(2,.ptr (some (k0,0))),(3,.int .i64 (.ofNat 0)),(4,.int .i64 (.ofNat 0))] 60,S16))))))))))))))) (al ((qF1 q 46).call 56 (qFL d 1)) (qBh S6 15) (qJt B1) (aa (qAY EQ 54 (qBh S6 15)) (.ptr (some (k5,0)),S17) (aa (Option.map (fun s=>(qAC,s)) (qAL EQ 54 (.ptr (some (k5,0))) (.agg (bl B1)) S17)) (.tuple [],S18) (al (qBC 54 k5 0) S18 (.agg (bl B1)) (al ((qF1 q 44).call 169 [.agg (bl B1)]) S18 (.tuple [.agg (sL x1 c1),.int .i64 e1]) (aa (qAY EQ 29 S18) (.ptr (some (k6,0)),S19) (aa (Option.map (fun s=>(qAC,s)) (qGg k6 0 x1 c1 S19)) (.tuple [],S20) (al (qBC 29 k6 0) S20 (.agg (sL x1 c1)) (aa (Option.map (fun s=>(qAC,s)) (qGg k0 7 x1 c1 S20)) (.tuple [],S21) (ai (eqF e1 (.ofNat 0)) (al (qBC 170 k0 0) (qBh S21 15) (.agg (sL x0 c0++sL x1 c1)) (aa (Option.map (fun s=>(qAC,s)) (qHw k0 x0 c0 x1 c1 S21)) (.tuple [],S23) (aq (Q (.ret,xFr [(2,.ptr (some (k0,0))),(3,.int .i64 (.ofNat 1)),(4,.int .i64 (.ofNat 0))] 60,S23))))) (al (qBC 170 k0 0) (qBh S21 15) (.agg (sL x0 c0++sL x1 c1)) (aa (Option.map (fun s=>(qAC,s)) (qHw k0 x0 c0 x1 c1 S21)) (.tuple [],S24) (aq (Q (.ret,xFr [(2,.ptr (some (k0,0))),(3,.int .i64 (Int.negSucc 0)),(4,.int .i64 (.ofNat 0))] 60,S24)))))))))))))))))))))))))))):=vq (by kernel_rfl)
theorem vcL0 (q:CallT) (d k0 k1:Nat) (x0 x1:Nat→Nat) (c0 c1:Bool) (S S1 S2 S3 S4:ASt) (Q:qz2) :
 Vq ((TM EQ (qA0 [121] q) [] fl0 60).ex qRY none cL0 {m:=qAM [pO d] 0 .e,n:=25,defs:=[]} S) (fun r=>Q (qAx [2,3] r)) (aa (qAY EQ 29 S) (.ptr (some (k0,0)),S1) (al ((M EQ (drawA EQ) (qA0 [121] q) 57).call 121 [.ptr (some (d,0))]) S1 (.tuple [.agg (sL x0 c0++sL x1 c1),.int .i64 (.ofNat 0),.int .i64 (.ofNat 0)]) (aa (qAY EQ 170 S1) (.ptr (some (k1,0)),S2) (aa (Option.map (fun s=>(qAC,s)) (qAL EQ 170 (.ptr (some (k1,0))) (.agg (sL x0 c0++sL x1 c1)) S2)) (.tuple [],S3) (al (qBC 29 k1 0) S3 (.agg (sL x0 c0)) (aa (Option.map (fun s=>(qAC,s)) (qGg k0 0 x0 c0 S3)) (.tuple [],S4) (aq (Q (.ret,xFr [(2,.ptr (some (k0,0))),(3,.int .i64 (.ofNat 0))] 25,S4))))))))):=vq (by kernel_rfl)
theorem vcL1 (q:CallT) (d k0 k1:Nat) (x0 x1:Nat→Nat) (c0 c1:Bool) (S S1 S2 S3 S4:ASt) (Q:qz2) :
 Vq ((TM EQ (qA0 [121] q) [] fl0 60).ex qRY none cL1 {m:=qAM [pO d] 0 .e,n:=25,defs:=[]} S) (fun r=>Q (qAx [2,3] r)) (aa (qAY EQ 29 S) (.ptr (some (k0,0)),S1) (al ((M EQ (drawA EQ) (qA0 [121] q) 57).call 121 [.ptr (some (d,0))]) S1 (.tuple [.agg (sL x0 c0++sL x1 c1),.int .i64 (.ofNat 1),.int .i64 (.ofNat 0)]) (aa (qAY EQ 170 S1) (.ptr (some (k1,0)),S2) (aa (Option.map (fun s=>(qAC,s)) (qAL EQ 170 (.ptr (some (k1,0))) (.agg (sL x0 c0++sL x1 c1)) S2)) (.tuple [],S3) (al (qBC 29 k1 7) S3 (.agg (sL x1 c1)) (aa (Option.map (fun s=>(qAC,s)) (qGg k0 0 x1 c1 S3)) (.tuple [],S4) (aq (Q (.ret,xFr [(2,.ptr (some (k0,0))),(3,.int .i64 (.ofNat 0))] 25,S4))))))))):=vq (by kernel_rfl)
theorem vcLn (q:CallT) (d k0 k1:Nat) (x0 x1:Nat→Nat) (c0 c1:Bool) (S S1 S2 S3 S4:ASt) (Q:qz2) :
 Vq ((TM EQ (qA0 [121] q) [] fl0 60).ex qRY none cLn {m:=qAM [pO d] 0 .e,n:=25,defs:=[]} S) (fun r=>Q (qAx [2,3] r)) (aa (qAY EQ 29 S) (.ptr (some (k0,0)),S1) (al ((M EQ (drawA EQ) (qA0 [121] q) 57).call 121 [.ptr (some (d,0))]) S1 (.tuple [.agg (sL x0 c0++sL x1 c1),.int .i64 (Int.negSucc 0),.int .i64 (.ofNat 0)]) (aa (qAY EQ 170 S1) (.ptr (some (k1,0)),S2) (aa (Option.map (fun s=>(qAC,s)) (qAL EQ 170 (.ptr (some (k1,0))) (.agg (sL x0 c0++sL x1 c1)) S2)) (.tuple [],S3) (aa (Option.map (fun s=>(qAC,s)) (qAL EQ 29 (.ptr (some (k0,0))) (.agg [.int .i64 (.ofNat 0),.bool false,.int .u64 (.ofNat 0),.int .u64 (.ofNat 0),.int .u64 (.ofNat 0),.int .u64 (.ofNat 0),.int .u64 (.ofNat 0)]) S3)) (.tuple [],S4) (aq (Q (.ret,xFr [(2,.ptr (some (k0,0))),(3,.int .i64 (.ofNat 6))] 25,S4)))))))):=vq (by kernel_rfl)
theorem vcSo (q:CallT) (d i k0 k1 k2 q0:Nat) (B0:List Nat) (x0:Nat→Nat) (e0:Int) (i0:Bool) (S S1 S2 S3 S4 S5 S6:ASt) (Q:qz2) :
 Vq ((TM EQ (qA0 [56,200] q) [] fl0 60).ex ⟨[4,15,8,23,24,10,28,31,4095,4094],[],[],[]⟩ none cSo {m:=qAM [pO d,nI i] 0 .e,n:=32,defs:=[]} S) (fun r=>Q (qAx [4,5,6,7] r)) (aa (qAY EQ 33 S) (.ptr (some (k0,0)),S1) (al ((M EQ (drawA EQ) (qA0 [56,200] q) 57).call 56 (qFL d i)) S1 (qJt B0) (aa (qAY EQ 54 S1) (.ptr (some (k1,0)),S2) (aa (Option.map (fun s=>(qAC,s)) (qAL EQ 54 (.ptr (some (k1,0))) (.agg (bl B0)) S2)) (.tuple [],S3) (al (qBC 54 k1 0) S3 (.agg (bl B0)) (al ((M EQ (drawA EQ) (qA0 [56,200] q) 55).call 200 [.agg (bl B0)]) S3 (.tuple [.agg (rL x0),.int .u64 (.ofNat q0),.int .i64 e0]) (aa (qAY EQ 33 S3) (.ptr (some (k2,0)),S4) (aa (Option.map (fun s=>(qAC,s)) (qAL EQ 33 (.ptr (some (k2,0))) (.agg (rL x0)) S4)) (.tuple [],S5) (al (qBC 33 k2 0) S5 (.agg (rL x0)) (as_ S5 (qAD EQ .eql 37 (.tmp 30) (.const (.int .i64 0)) (.int .i64 e0) (qEi 0)) (.bool i0) (aa (Option.map (fun s=>(qAC,s)) (qAL EQ 33 (.ptr (some (k0,0))) (.agg (rL x0)) S5)) (.tuple [],S6) (aq (Q (.ret,xFr [(4,.ptr (some (k0,0))),(5,.int .u64 (.ofNat q0)),(6,.bool i0),(7,.int .i64 (.ofNat 0))] 32,S6)))))))))))))):=vq (by kernel_rfl)
noncomputable abbrev qDW (a b:Nat):List AV:=[.int .u64 (.ofNat a),.int .u64 (.ofNat b)]
noncomputable abbrev qEj (a:ASt):=ASt.mk a.h (a.next+14+7)
noncomputable abbrev qGh (a b c:Nat) (d:ASt):=qAL EQ 25 (AV.ptr (some (a,0))) (AV.agg (qDW b c)) d
noncomputable abbrev qIo (a b:Nat) (c:Nat→Nat) (d:ASt) (e:Nat):=qAL EQ 33 (AV.ptr (some (a,b))) (AV.agg (rL c)) (qBh d e)
noncomputable abbrev qHx (a:Nat) (b c:Nat→Nat) (d:ASt):=qAL EQ 173 (AV.ptr (some (a,0))) (AV.agg (rL b++rL c)) (qEj d)
noncomputable abbrev qML (a:Nat→Nat) (b:Nat) (c:Bool):=AV.tuple [AV.agg (rL a),AV.int .u64 (.ofNat b),AV.bool c,AV.int .i64 (.ofNat 0)]
noncomputable abbrev qGW (a b c:Nat) (d:ASt):=qAL EQ 24 (AV.ptr (some (a,b))) (qEk c) d
theorem vcBo (q:CallT) (d n k0 k1 q0 q1:Nat) (x0 x1:Nat→Nat) (i0 i1 g:Bool) (S S1 S2 S3 S4 S6 S7 S10 S11 S13 S14 S16 S17 S19 S20 S22 S23 S25 S26 S28 S29 S31 S32 S34 S35:ASt) (Q:qz2) :
 Vq (tBo q d n k0 k1 q0 q1 x0 x1 i0 i1 g S S1 S2 S3 S4 S6 S7 S10 S11 S13 S14 S16 S17 S19 S20 S22 S23 S25 S26 S28 S29 S31 S32 S34 S35) (fun r=>Q (qAx [4,5,6,7] r)) (aa (qAY EQ 173 S) (.ptr (some (k0,0)),S1) (aa (qAY EQ 25 S1) (.ptr (some (k1,0)),S2) (al ((M EQ (drawA EQ) (qA0 [73,170] q) 54).call 73 [.ptr (some (d,0))]) S2 (qEi n) (as_ S2 (qAD EQ .eql 3 (.tmp 12) (.const (.int .i64 0)) (qEi n) (qEi 0)) (.bool false) (al ((M EQ (drawA EQ) (qA0 [73,170] q) 52).call 73 [.ptr (some (d,0))]) S2 (qEi n) (as_ S2 (qAD EQ .sub 3 (.tmp 23) (.const (.int .i64 1)) (qEi n) (qEi 1)) (.int .i64 (.ofNat (n - 1))) (as_ S2 (qAD EQ .geq 3 (.tmp 21) (.tmp 24) (qEi 2) (.int .i64 (.ofNat (n - 1)))) (.bool false) (al ((M EQ (drawA EQ) (qA0 [73,170] q) 44).call 170 (qFL d 2)) S2 (qML x0 q0 i0) (ai i0 (aa (Option.map (fun s=>(qAC,s)) (qAL EQ 33 (.ptr (some (k0,0))) (.agg (rL x0)) S2)) (.tuple [],S3) (aa (Option.map (fun s=>(qAC,s)) (qGW k1 0 q0 S3)) (.tuple [],S4) (al ((M EQ (drawA EQ) (qA0 [73,170] q) 44).call 170 (qFL d 3)) (qBh S4 14) (qML x1 q1 i1) (ai i1 (aa (Option.map (fun s=>(qAC,s)) (qIo k0 19 x1 S4 14)) (.tuple [],S6) (aa (Option.map (fun s=>(qAC,s)) (qGW k1 1 q1 S6)) (.tuple [],S7) (al (qBC 24 k1 1) (qBh S7 14) (qEk q1) (al (qBC 24 k1 0) (qBh S7 14) (qEk q0) (as_ (qBh S7 14) (qAD EQ .gtr 24 (.tmp 59) (.tmp 62) (qEk q1) (qEk q0)) (.bool g) (ai g (al (qBC 173 k0 0) (qEj S7) (.agg (rL x0++rL x1)) (al (qBC 25 k1 0) (qEj S7) (.agg (qDW q0 q1)) (aa (Option.map (fun s=>(qAC,s)) (qHx k0 x0 x1 S7)) (.tuple [],S10) (aa (Option.map (fun s=>(qAC,s)) (qGh k1 q0 q1 S10)) (.tuple [],S11) (ah (qAh [(qHC (qAQ EQ 25 (.ptr (some (k1,0))) S10),.agg (qDW q0 q1))]) (aq (Q (.ret,xFr [(4,.ptr (some (k0,0))),(5,.ptr (some (k1,0))),(6,.int .i64 (.ofNat 1)),(7,.int .i64 (.ofNat 0))] 71,S11)))))))) (al (qBC 173 k0 0) (qEj S7) (.agg (rL x0++rL x1)) (al (qBC 25 k1 0) (qEj S7) (.agg (qDW q0 q1)) (aa (Option.map (fun s=>(qAC,s)) (qHx k0 x0 x1 S7)) (.tuple [],S13) (aa (Option.map (fun s=>(qAC,s)) (qGh k1 q0 q1 S13)) (.tuple [],S14) (ah (qAh [(qHC (qAQ EQ 25 (.ptr (some (k1,0))) S13),.agg (qDW q0 q1))]) (aq (Q (.ret,xFr [(4,.ptr (some (k0,0))),(5,.ptr (some (k1,0))),(6,.int .i64 (.ofNat 0)),(7,.int .i64 (.ofNat 0))] 71,S14)))))))))))))) (aa (Option.map (fun s=>(qAC,s)) (qIo k0 19 x1 S4 14)) (.tuple [],S16) (aa (Option.map (fun s=>(qAC,s)) (qGW k1 1 q1 S16)) (.tuple [],S17) (al (qBC 173 k0 0) (qEj S17) (.agg (rL x0++rL x1)) (al (qBC 25 k1 0) (qEj S17) (.agg (qDW q0 q1)) (aa (Option.map (fun s=>(qAC,s)) (qHx k0 x0 x1 S17)) (.tuple [],S19) (aa (Option.map (fun s=>(qAC,s)) (qGh k1 q0 q1 S19)) (.tuple [],S20) (ah (qAh [(qHC (qAQ EQ 25 (.ptr (some (k1,0))) S19),.agg (qDW q0 q1))]) (aq (Q (.ret,xFr [(4,.ptr (some (k0,0))),(5,.ptr (some (k1,0))),(6,.int .i64 (.ofNat 0)),(7,.int .i64 (.ofNat 0))] 71,S20)))))))))))))) (aa (Option.map (fun s=>(qAC,s)) (qAL EQ 33 (.ptr (some (k0,0))) (.agg (rL x0)) S2)) (.tuple [],S22) (aa (Option.map (fun s=>(qAC,s)) (qGW k1 0 q0 S22)) (.tuple [],S23) (al ((M EQ (drawA EQ) (qA0 [73,170] q) 44).call 170 (qFL d 3)) (qBh S23 14) (qML x1 q1 i1) (ai i1 (aa (Option.map (fun s=>(qAC,s)) (qIo k0 19 x1 S23 14)) (.tuple [],S25) (aa (Option.map (fun s=>(qAC,s)) (qGW k1 1 q1 S25)) (.tuple [],S26) (al (qBC 173 k0 0) (qEj S26) (.agg (rL x0++rL x1)) (al (qBC 25 k1 0) (qEj S26) (.agg (qDW q0 q1)) (aa (Option.map (fun s=>(qAC,s)) (qHx k0 x0 x1 S26)) (.tuple [],S28) (aa (Option.map (fun s=>(qAC,s)) (qGh k1 q0 q1 S28)) (.tuple [],S29) (ah (qAh [(qHC (qAQ EQ 25 (.ptr (some (k1,0))) S28),.agg (qDW q0 q1))]) (aq (Q (.ret,xFr [(4,.ptr (some (k0,0))),(5,.ptr (some (k1,0))),(6,.int .i64 (.ofNat 1)),(7,.int .i64 (.ofNat 0))] 71,S29)))))))))) (aa (Option.map (fun s=>(qAC,s)) (qIo k0 19 x1 S23 14)) (.tuple [],S31) (aa (Option.map (fun s=>(qAC,s)) (qGW k1 1 q1 S31)) (.tuple [],S32) (al (qBC 173 k0 0) (qEj S32) (.agg (rL x0++rL x1)) (al (qBC 25 k1 0) (qEj S32) (.agg (qDW q0 q1)) (aa (Option.map (fun s=>(qAC,s)) (qHx k0 x0 x1 S32)) (.tuple [],S34) (aa (Option.map (fun s=>(qAC,s)) (qGh k1 q0 q1 S34)) (.tuple [],S35) (ah (qAh [(qHC (qAQ EQ 25 (.ptr (some (k1,0))) S34),.agg (qDW q0 q1))]) (aq (Q (.ret,xFr [(4,.ptr (some (k0,0))),(5,.ptr (some (k1,0))),(6,.int .i64 (Int.negSucc 0)),(7,.int .i64 (.ofNat 0))] 71,S35))))))))))))))))))))))):=vq (by kernel_rfl)
theorem vcK0 (q:CallT) (d k0 k1 k2 q0 q1:Nat) (x0 x1:Nat→Nat) (S S1 S2 S3 S4 S5 S6:ASt) (Q:qz2) :
 Vq (tK0 q d k0 k1 k2 q0 q1 x0 x1 S S1 S2 S3 S4 S5 S6) (fun r=>Q (qAx [4,5,6] r)) (aa (qAY EQ 33 S) (.ptr (some (k0,0)),S1) (al ((M EQ (drawA EQ) (qA0 [122] q) 57).call 122 (qFL d 2)) S1 (.tuple [.agg (rL x0++rL x1),.agg (qDW q0 q1),.int .i64 (.ofNat 0),.int .i64 (.ofNat 0)]) (aa (qAY EQ 173 S1) (.ptr (some (k1,0)),S2) (aa (qAY EQ 25 S2) (.ptr (some (k2,0)),S3) (aa (Option.map (fun s=>(qAC,s)) (qAL EQ 173 (.ptr (some (k1,0))) (.agg (rL x0++rL x1)) S3)) (.tuple [],S4) (aa (Option.map (fun s=>(qAC,s)) (qGh k2 q0 q1 S4)) (.tuple [],S5) (al (qBC 33 k1 0) (qBh S5 9) (.agg (rL x0)) (al (qBC 24 k2 0) (qBh S5 9) (qEk q0) (aa (Option.map (fun s=>(qAC,s)) (qIo k0 0 x0 S5 9)) (.tuple [],S6) (ah (qAh [(qHC (qAQ EQ 24 (.ptr (some (k2,0))) S6),.int .u64 (.ofNat q0))]) (aq (Q (.ret,xFr [(4,.ptr (some (k0,0))),(5,.int .u64 (.ofNat q0)),(6,.int .i64 (.ofNat 0))] 35,S6))))))))))))):=vq (by kernel_rfl)
theorem vcK1 (q:CallT) (d k0 k1 k2 q0 q1:Nat) (x0 x1:Nat→Nat) (S S1 S2 S3 S4 S5 S6:ASt) (Q:qz2) :
 Vq (tK1 q d k0 k1 k2 q0 q1 x0 x1 S S1 S2 S3 S4 S5 S6) (fun r=>Q (qAx [4,5,6] r)) (aa (qAY EQ 33 S) (.ptr (some (k0,0)),S1) (al ((M EQ (drawA EQ) (qA0 [122] q) 57).call 122 (qFL d 2)) S1 (.tuple [.agg (rL x0++rL x1),.agg (qDW q0 q1),.int .i64 (.ofNat 1),.int .i64 (.ofNat 0)]) (aa (qAY EQ 173 S1) (.ptr (some (k1,0)),S2) (aa (qAY EQ 25 S2) (.ptr (some (k2,0)),S3) (aa (Option.map (fun s=>(qAC,s)) (qAL EQ 173 (.ptr (some (k1,0))) (.agg (rL x0++rL x1)) S3)) (.tuple [],S4) (aa (Option.map (fun s=>(qAC,s)) (qGh k2 q0 q1 S4)) (.tuple [],S5) (al (qBC 33 k1 19) (qBh S5 9) (.agg (rL x1)) (al (qBC 24 k2 1) (qBh S5 9) (qEk q1) (aa (Option.map (fun s=>(qAC,s)) (qIo k0 0 x1 S5 9)) (.tuple [],S6) (ah (qAh [(qHC (qAQ EQ 24 (.ptr (some (k2,1))) S6),.int .u64 (.ofNat q1))]) (aq (Q (.ret,xFr [(4,.ptr (some (k0,0))),(5,.int .u64 (.ofNat q1)),(6,.int .i64 (.ofNat 0))] 35,S6))))))))))))):=vq (by kernel_rfl)
theorem q18 (q:CallT) (d k0 k1 k2 q0 q1:Nat) (x0 x1:Nat→Nat) (S S1 S2 S3 S4 S5 S6:ASt) (Q:qz2) :
 Vq ((TM EQ (qA0 [122] q) [] fl0 60).ex qRZ none cKn {m:=qAM [pO d,nI 2] 0 .e,n:=35,defs:=[]} S) (fun r=>Q (qAx [4,5,6] r)) (aa (qAY EQ 33 S) (.ptr (some (k0,0)),S1) (al ((M EQ (drawA EQ) (qA0 [122] q) 57).call 122 (qFL d 2)) S1 (.tuple [.agg (rL x0++rL x1),.agg (qDW q0 q1),.int .i64 (Int.negSucc 0),.int .i64 (.ofNat 0)]) (aa (qAY EQ 173 S1) (.ptr (some (k1,0)),S2) (aa (qAY EQ 25 S2) (.ptr (some (k2,0)),S3) (aa (Option.map (fun s=>(qAC,s)) (qAL EQ 173 (.ptr (some (k1,0))) (.agg (rL x0++rL x1)) S3)) (.tuple [],S4) (aa (Option.map (fun s=>(qAC,s)) (qGh k2 q0 q1 S4)) (.tuple [],S5) (aa (Option.map (fun s=>(qAC,s)) (qAL EQ 33 (.ptr (some (k0,0))) (.agg [.int .u64 (.ofNat 0),.int .u64 (.ofNat 0),.int .u64 (.ofNat 0),.int .u64 (.ofNat 0),.int .u64 (.ofNat 0),.int .u64 (.ofNat 0),.int .u64 (.ofNat 0),.int .u64 (.ofNat 0),.int .u64 (.ofNat 0),.int .u64 (.ofNat 0),.int .u64 (.ofNat 0),.int .u64 (.ofNat 0),.int .u64 (.ofNat 0),.int .u64 (.ofNat 0),.int .u64 (.ofNat 0),.int .u64 (.ofNat 0),.int .u64 (.ofNat 0),.int .i64 (.ofNat 0),.int .i64 (.ofNat 0)]) S5)) (.tuple [],S6) (aq (Q (.ret,xFr [(4,.ptr (some (k0,0))),(5,.int .u64 (.ofNat 0)),(6,.int .i64 (.ofNat 6))] 35,S6)))))))))):=vq (by kernel_rfl)
end
section
open cd cd2 cd3 cd4 cd5 cd9 dsk
theorem qOh:Env.Ok Tryz.prog EQ:=envEx_ok (xs:=[]) ⟨⟨Tryz.func121,Tryz.call121⟩,⟨Tryz.func54,Tryz.call54⟩,⟨Tryz.func170,Tryz.call170⟩,⟨Tryz.func122,Tryz.call122⟩,⟨Tryz.func55,Tryz.call55⟩,⟨Tryz.func53,Tryz.call53⟩,⟨Tryz.func120,Tryz.call120⟩,⟨Tryz.func73,Tryz.call73⟩,⟨Tryz.func64,Tryz.call64⟩,trivial⟩ trivial (by kernel_rfl)
theorem qIJ {x:Option (AV×ASt)} {v:AV} {S:ASt} (h:x=some (v,S)):qHC x=some v:=by rw[h];rfl
theorem qCn (b:Bool):eqF (.ofNat (cond b 0 4)) (.ofNat 0)=b:=by cases b<;>rfl
theorem vcBk (d l m n:Nat) (S:ASt) (Q:AV×ASt→Prop) :
 Vq ((TM EQ qAa [(73,⟨[9],[4],[],[]⟩),(64,⟨[9],[],[],[]⟩)] fl0 60).call 73 [.ptr (some (d,0))] S) Q (al (qAQ EQ 102 (.ptr (some (d,1)))) S (.map (some m)) (al (qAQ EQ 60 (.ptr (some (d,0)))) S (.slice (some (l,0)) n (.known n)) (aq (Q (.int .i64 (.ofNat n),S))))):=vq (by kernel_rfl)
theorem qKM {S:ASt} {d:Nat} {las:List (List Nat)} {es:List dsk.En} (h:Dsk S d las es):qAE Tryz.prog 73 [.ptr (some (d,0))] S (.int .i64 (.ofNat las.length),S):=by
 obtain⟨l,m,ck,hd⟩:=h.ex;exact qAE.of_tm qOh qAB (Eq.mp (vcBk d l m las.length S (fun q=>q=(.int .i64 (.ofNat las.length),S))) ⟨qAZ (by kernel_rfl) hd.hd rfl,qAZ (by kernel_rfl) hd.hd rfl,rfl⟩)
noncomputable def qIQ (d:Nat) (las:List (List Nat)) (es:List dsk.En):CallT:=fun f args st=>open Classical in if Dsk st d las es then (match args with
 | [p]=>if f=73∧p=.ptr (some (d,0)) then some (.int .i64 (.ofNat las.length),st) else none
 | [p,.int .i64 (.ofNat i)]=>if f=56∧p=.ptr (some (d,0))∧i<las.length then some (.tuple [.agg (bl (nb las es i)),.int .i64 (.ofNat 0)],st) else none
 | _=>none) else none
theorem qCw {d:Nat} {las:List (List Nat)} {es:List dsk.En}:CallsOK Tryz.prog (qIQ d las es):=fun B0 w0 f args st r hr ι w args' hsr hv=>by
 unfold qIQ at hr
 split at hr
 ·rename_i hD
  split at hr
  ·split at hr
   ·rename_i hh;obtain⟨rfl,rfl⟩:=hh;simp only[qz1] at hr;subst hr;exact qKM hD B0 w0 ι w args' hsr hv
   ·cases hr
  ·split at hr
   ·rename_i hh;obtain⟨rfl,rfl,hi⟩:=hh;simp only[qz1] at hr;subst hr;exact qZQ hD hi B0 w0 ι w args' hsr hv
   ·cases hr
  ·cases hr
 ·cases hr
theorem qF9 {S:ASt} {d:Nat} {las:List (List Nat)} {es:List dsk.En} (h:Dsk S d las es):qIQ d las es 73 [.ptr (some (d,0))] S=some (.int .i64 (.ofNat las.length),S):=by
 unfold qIQ;rw[if_pos h];simp
theorem qG6 {S:ASt} {d i:Nat} {las:List (List Nat)} {es:List dsk.En} (h:Dsk S d las es) (hi:i<las.length):qIQ d las es 56 [.ptr (some (d,0)),.int .i64 (.ofNat i)] S=some (.tuple [.agg (bl (nb las es i)),.int .i64 (.ofNat 0)],S):=by
 unfold qIQ;rw[if_pos h];simp[hi]
theorem qBl {S:ASt} {d f:Nat} {las:List (List Nat)} {es:List dsk.En} {args:List AV} (h1:f≠73) (h2:f≠56):qIQ d las es f args S=none:=by
 unfold qIQ
 split
 ·split
  ·simp[h1]
  ·simp[h2]
  ·rfl
 ·rfl
section
variable {S:ASt} {x y:Operand}
theorem lssQ {n:Nat} (h:2≤n):still S (qAD EQ .lss 3 x y (.int .i64 (.ofNat n)) (.int .i64 (.ofNat 2)))=some (.bool false,S):=by
 have e:qAD EQ .lss 3 x y (.int .i64 (.ofNat n)) (.int .i64 (.ofNat 2))=some (.bool (ltF (.ofNat n) (.ofNat 2))):=by kernel_rfl
 rw[qBN,decide_eq_false (by omega)] at e;exact qAF e
theorem eqQ {n:Nat} (h:4≤n):still S (qAD EQ .eql 3 x y (.int .i64 (.ofNat n)) (.int .i64 (.ofNat 0)))=some (.bool false,S):=by
 have e:qAD EQ .eql 3 x y (.int .i64 (.ofNat n)) (.int .i64 (.ofNat 0))=some (.bool (eqF (.ofNat n) (.ofNat 0))):=by kernel_rfl
 have h0:eqF (.ofNat n) (.ofNat 0)=false:=by
  rw[qCG];cases hb:(Int.ofNat n == Int.ofNat 0)
  ·rfl
  ·have h2:=eq_of_beq hb;have:=Int.ofNat.inj h2;omega
 rw[h0] at e;exact qAF e
theorem subQ {n:Nat} (h:4≤n) (h2:n<100000):still S (qAD EQ .sub 3 x y (.int .i64 (.ofNat n)) (.int .i64 (.ofNat 1)))=some (.int .i64 (.ofNat (n - 1)),S):=by
 have e:qAD EQ .sub 3 x y (.int .i64 (.ofNat n)) (.int .i64 (.ofNat 1))=some (.int .i64 (qAH .i64 (.ofNat n - .ofNat 1))):=by kernel_rfl
 have e2:(Int.ofNat n - Int.ofNat 1)=Int.ofNat (n - 1):=by
  show (n:Int) - 1=((n - 1:Nat):Int);omega
 rw[e2,qBW (by omega)] at e;exact qAF e
theorem geqQ {n:Nat} (h:4≤n):still S (qAD EQ .geq 3 x y (.int .i64 (.ofNat 2)) (.int .i64 (.ofNat (n - 1))))=some (.bool false,S):=by
 have e:qAD EQ .geq 3 x y (.int .i64 (.ofNat 2)) (.int .i64 (.ofNat (n - 1)))=some (.bool (!ltF (.ofNat 2) (.ofNat (n - 1)))):=by kernel_rfl
 rw[qBN,decide_eq_true (by omega)] at e;exact qAF e
theorem gtrQ {a b:Nat}:still S (qAD EQ .gtr 24 x y (.int .u64 (.ofNat a)) (.int .u64 (.ofNat b)))=some (.bool (decide (b<a)),S):=by
 have e:qAD EQ .gtr 24 x y (.int .u64 (.ofNat a)) (.int .u64 (.ofNat b))=some (.bool (ltF (.ofNat b) (.ofNat a))):=by kernel_rfl
 rw[qBN] at e;exact qAF e
theorem eqlQ {b:Bool}:still S (qAD EQ .eql 37 x y (.int .i64 (.ofNat (cond b 0 4))) (.int .i64 (.ofNat 0)))=some (.bool b,S):=by
 have e:qAD EQ .eql 37 x y (.int .i64 (.ofNat (cond b 0 4))) (.int .i64 (.ofNat 0))=some (.bool (eqF (.ofNat (cond b 0 4)) (.ofNat 0))):=by kernel_rfl
 rw[qCn] at e;exact qAF e
end
theorem qSv (x:Nat→Nat) (c:Bool):∀v,v∈sL x c→∀k,qAP k v:=fun v hv k=>by
 simp only[sL,List.mem_cons,List.not_mem_nil,or_false] at hv;rcases hv with rfl | rfl | rfl | rfl | rfl | rfl | rfl<;>simp[qAP]
theorem qTD (x:Nat→Nat):∀v,v∈rL x→∀k,qAP k v:=fun v hv k=>by
 simp only[rL,List.mem_cons,List.not_mem_nil,or_false] at hv;rcases hv with rfl | rfl | rfl | rfl | rfl | rfl | rfl | rfl | rfl | rfl | rfl | rfl | rfl | rfl | rfl | rfl | rfl | rfl | rfl<;>simp[qAP]
theorem qCW (k:Nat) (t:IntKind) (z:Int):qAP k (.int t z):=by simp[qAP]
theorem qEL (k:Nat) (b:Bool):qAP k (.bool b):=by simp[qAP]
theorem qEP {k:Nat} {l:List AV} (h:∀v,v∈l→qAP k v):qAP k (.agg l):=by simp only[qAP];exact h
theorem qFG {k:Nat} {l:List AV} (h:∀v,v∈l→qAP k v):qAP k (.tuple l):=by simp only[qAP];exact h
theorem qHV {k:Nat} {a b:AV} (ha:qAP k a) (hb:qAP k b):∀v,v∈[a,b]→qAP k v:=fun v hv=>by
 simp only[List.mem_cons,List.not_mem_nil,or_false] at hv;rcases hv with rfl | rfl<;>assumption
theorem qJY {k:Nat} {a b c:AV} (ha:qAP k a) (hb:qAP k b) (hc:qAP k c):∀v,v∈[a,b,c]→qAP k v:=fun v hv=>by
 simp only[List.mem_cons,List.not_mem_nil,or_false] at hv;rcases hv with rfl | rfl | rfl<;>assumption
theorem qVH {k:Nat} {a b c d:AV} (ha:qAP k a) (hb:qAP k b) (hc:qAP k c) (hd:qAP k d):∀v,v∈[a,b,c,d]→qAP k v:=fun v hv=>by
 simp only[List.mem_cons,List.not_mem_nil,or_false] at hv;rcases hv with rfl | rfl | rfl | rfl<;>assumption
theorem q0d {k:Nat} {a b:List AV} (ha:∀v,v∈a→qAP k v) (hb:∀v,v∈b→qAP k v):∀v,v∈a++b→qAP k v:=fun v hv=>by
 rcases List.mem_append.1 hv with h | h
 ·exact ha v h
 ·exact hb v h
def qFT (a b g:Bool):Int:=if a=true then (if (b && g)=true then 1 else 0) else if b=true then 1 else -1
section
variable {a b g:Bool}
theorem sN1 (h0:a=true) (h1:b=true) (h2:g=true):qFT a b g=1:=by subst h0 h1 h2;rfl
theorem sN2 (h0:a=true) (h1:b=true) (h2:g=false):qFT a b g=0:=by subst h0 h1 h2;rfl
theorem sN3 (h0:a=true) (h1:b=false):qFT a b g=0:=by subst h0 h1;rfl
theorem sN4 (h0:a=false) (h1:b=true):qFT a b g=1:=by subst h0 h1;rfl
theorem sN5 (h0:a=false) (h1:b=false):qFT a b g=-1:=by subst h0 h1;rfl
end
section
variable {q:CallT} {H:List Nat→Nat→Nat} {X:List Nat→Nat} {S:ASt} {d:Nat} {las:List (List Nat)} {es:List dsk.En}
theorem qWG {q:CallT} {d n i q0 q1:Nat} {B0 B1:List Nat} {x0 x1:Nat→Nat} {c0 c1 i0 i1:Bool} (hq0:CallsOK Tryz.prog q) (ht:Tidy S) (hq1:∀{l:List (Nat×AO)} (Y:ASt),Ov S Y l→q 73 [.ptr (some (d,0))] Y=some (.int .i64 (.ofNat n),Y)) (hr0:∀{l:List (Nat×AO)} (Y:ASt),Ov S Y l→q 56 [.ptr (some (d,0)),.int .i64 (.ofNat 0)] Y=some (.tuple [.agg (bl B0),.int .i64 (.ofNat 0)],Y)) (hr1:∀{l:List (Nat×AO)} (Y:ASt),Ov S Y l→q 56 [.ptr (some (d,0)),.int .i64 (.ofNat 1)] Y=some (.tuple [.agg (bl B1),.int .i64 (.ofNat 0)],Y)) (hs0:∀Y,q 169 [.agg (bl B0)] Y=some (.tuple [.agg (sL x0 c0),.int .i64 (.ofNat (cond i0 0 4))],Y)) (hs1:∀Y,q 169 [.agg (bl B1)] Y=some (.tuple [.agg (sL x1 c1),.int .i64 (.ofNat (cond i1 0 4))],Y)) (hn:2≤n):qAE Tryz.prog 121 [.ptr (some (d,0))] S (.tuple [.agg (sL x0 c0++sL x1 c1),.int .i64 (qFT i0 i1 (decide (x0 5<x1 5))),.int .i64 (.ofNat 0)],S):=by
 obtain⟨cnt,hcn⟩:∃c,c=qFT i0 i1 (decide (x0 5<x1 5)):=⟨_,rfl⟩;rw[←hcn];have o0:=Ov.nil ht;obtain⟨S1,e1,o1⟩:=o0.add (.cells (zS++zS) true);obtain⟨S2,e2,o2⟩:=o1.add (.cells (bl []) true);obtain⟨S3,e3,o3⟩:=o2.stA (E:=EQ) (t:=54) (i:=1) (k:=S1.next) (o:=0) (z:=256) (vs:=(bl B0)) ([]) ((bl [])) ([]);obtain⟨S4,e4,o4⟩:=o3.add (.cells zS true);obtain⟨S5,e5,o5⟩:=o4.stA (E:=EQ) (t:=29) (i:=2) (k:=S3.next) (o:=0) (z:=7) (vs:=(sL x0 c0)) ([]) (zS) ([]);obtain⟨S6,e6,o6⟩:=o5.stA (E:=EQ) (t:=29) (i:=0) (k:=S.next) (o:=0) (z:=7) (vs:=(sL x0 c0)) ([]) (zS) (zS);have o7:=o6.bump 15;obtain⟨S8,e8,o8⟩:=o7.add (.cells (bl []) true);obtain⟨S9,e9,o9⟩:=o8.stA (E:=EQ) (t:=54) (i:=3) (k:=(ASt.mk S6.h (S6.next+15)).next) (o:=0) (z:=256) (vs:=(bl B1)) ([]) ((bl [])) ([]);obtain⟨S10,e10,o10⟩:=o9.add (.cells zS true);obtain⟨S11,e11,o11⟩:=o10.stA (E:=EQ) (t:=29) (i:=4) (k:=S9.next) (o:=0) (z:=7) (vs:=(sL x1 c1)) ([]) (zS) ([]);obtain⟨S12,e12,o12⟩:=o11.stA (E:=EQ) (t:=29) (i:=0) (k:=S.next) (o:=7) (z:=7) (vs:=(sL x1 c1)) ((sL x0 c0)) (zS) ([]);have o13:=o12.bump 15;obtain⟨S14,e14,o14⟩:=o13.stA (E:=EQ) (t:=170) (i:=0) (k:=S.next) (o:=0) (z:=14) (vs:=(sL x0 c0++(sL x1 c1))) ([]) ((sL x0 c0++(sL x1 c1))) ([]);obtain⟨S15,e15,o15⟩:=o13.stA (E:=EQ) (t:=170) (i:=0) (k:=S.next) (o:=0) (z:=14) (vs:=(sL x0 c0++(sL x1 c1))) ([]) ((sL x0 c0++(sL x1 c1))) ([]);obtain⟨S16,e16,o16⟩:=o13.stA (E:=EQ) (t:=170) (i:=0) (k:=S.next) (o:=0) (z:=14) (vs:=(sL x0 c0++(sL x1 c1))) ([]) ((sL x0 c0++(sL x1 c1))) ([]);obtain⟨S17,e17,o17⟩:=o7.add (.cells (bl []) true);obtain⟨S18,e18,o18⟩:=o17.stA (E:=EQ) (t:=54) (i:=3) (k:=(ASt.mk S6.h (S6.next+15)).next) (o:=0) (z:=256) (vs:=(bl B1)) ([]) ((bl [])) ([]);obtain⟨S19,e19,o19⟩:=o18.add (.cells zS true);obtain⟨S20,e20,o20⟩:=o19.stA (E:=EQ) (t:=29) (i:=4) (k:=S18.next) (o:=0) (z:=7) (vs:=(sL x1 c1)) ([]) (zS) ([]);obtain⟨S21,e21,o21⟩:=o20.stA (E:=EQ) (t:=29) (i:=0) (k:=S.next) (o:=7) (z:=7) (vs:=(sL x1 c1)) ((sL x0 c0)) (zS) ([]);have o22:=o21.bump 15;obtain⟨S23,e23,o23⟩:=o22.stA (E:=EQ) (t:=170) (i:=0) (k:=S.next) (o:=0) (z:=14) (vs:=(sL x0 c0++(sL x1 c1))) ([]) ((sL x0 c0++(sL x1 c1))) ([]);obtain⟨S24,e24,o24⟩:=o22.stA (E:=EQ) (t:=170) (i:=0) (k:=S.next) (o:=0) (z:=14) (vs:=(sL x0 c0++(sL x1 c1))) ([]) ((sL x0 c0++(sL x1 c1))) ([]);refine exD Tryz.f121 cSl 60 [2,3,4] qOh (qAG hq0) (qFG (qJY (qEP (q0d (fun v h=>qSv _ _ v h _) (fun v h=>qSv _ _ v h _))) (qCW ..) (qCW ..))) (Eq.mp (vcSl q d n (S.next) (S1.next) (S3.next) ((ASt.mk S6.h (S6.next+15)).next) (S9.next) ((ASt.mk S6.h (S6.next+15)).next) (S18.next) B0 B1 x0 x1 c0 c1 (.ofNat (cond i0 0 4)) (.ofNat (cond i1 0 4)) (decide (x0 5<x1 5)) S S1 S2 S3 S4 S5 S6 S8 S9 S10 S11 S12 S14 S15 S16 S17 S18 S19 S20 S21 S23 S24 (Left EQ Tryz.f121 60 S (.tuple [.agg (sL x0 c0++sL x1 c1),.int .i64 cnt,.int .i64 (.ofNat 0)]))) ?_);exact⟨o0.al e1,ca (hq1 _ o1),lssQ hn,ca (hr0 _ o1),o1.al e2,e3,o3.ldA (i:=1) (z:=256) (cs:=(bl B0)),ca (hs0 _),o3.al e4,e5,o5.ldA (i:=2) (z:=7) (cs:=(sL x0 c0)),e6,qBF (fun h0=>⟨ca (hr1 _ o7),o7.al e8,e9,o9.ldA (i:=3) (z:=256) (cs:=(bl B1)),ca (hs1 _),o9.al e10,e11,o11.ldA (i:=4) (z:=7) (cs:=(sL x1 c1)),e12,qBF (fun h1=>⟨o13.ld1 (i:=4) (cs:=(sL x1 c1)),o13.ld1 (i:=0) (cs:=(sL x0 c0++(sL x1 c1))),gtrQ,qBF (fun h2=>⟨o13.ldA (i:=0) (z:=14) (cs:=(sL x0 c0++(sL x1 c1))),e14,(by rw[show cnt=1 from hcn.trans (sN1 ((qCn _).symm.trans h0) ((qCn _).symm.trans h1) h2)];exact Left.of (rs:=[.cell 2 170,.tmp 3,.tmp 4]) o14 rfl (by kernel_rfl) rfl (qAb (x:=.ptr (some (S.next,0))) (by kernel_rfl) (o14.ldA (i:=0) (z:=14) (o:=0) (k:=S.next) (cs:=(sL x0 c0++sL x1 c1))) (qAV (by kernel_rfl) (qAV (by kernel_rfl) qA9))) rfl)⟩) (fun h2=>⟨o13.ldA (i:=0) (z:=14) (cs:=(sL x0 c0++(sL x1 c1))),e15,(by rw[show cnt=0 from hcn.trans (sN2 ((qCn _).symm.trans h0) ((qCn _).symm.trans h1) h2)];exact Left.of (rs:=[.cell 2 170,.tmp 3,.tmp 4]) o15 rfl (by kernel_rfl) rfl (qAb (x:=.ptr (some (S.next,0))) (by kernel_rfl) (o15.ldA (i:=0) (z:=14) (o:=0) (k:=S.next) (cs:=(sL x0 c0++sL x1 c1))) (qAV (by kernel_rfl) (qAV (by kernel_rfl) qA9))) rfl)⟩)⟩) (fun h1=>⟨o13.ldA (i:=0) (z:=14) (cs:=(sL x0 c0++(sL x1 c1))),e16,(by rw[show cnt=0 from hcn.trans (sN3 ((qCn _).symm.trans h0) ((qCn _).symm.trans h1))];exact Left.of (rs:=[.cell 2 170,.tmp 3,.tmp 4]) o16 rfl (by kernel_rfl) rfl (qAb (x:=.ptr (some (S.next,0))) (by kernel_rfl) (o16.ldA (i:=0) (z:=14) (o:=0) (k:=S.next) (cs:=(sL x0 c0++sL x1 c1))) (qAV (by kernel_rfl) (qAV (by kernel_rfl) qA9))) rfl)⟩)⟩) (fun h0=>⟨ca (hr1 _ o7),o7.al e17,e18,o18.ldA (i:=3) (z:=256) (cs:=(bl B1)),ca (hs1 _),o18.al e19,e20,o20.ldA (i:=4) (z:=7) (cs:=(sL x1 c1)),e21,qBF (fun h1=>⟨o22.ldA (i:=0) (z:=14) (cs:=(sL x0 c0++(sL x1 c1))),e23,(by rw[show cnt=1 from hcn.trans (sN4 ((qCn _).symm.trans h0) ((qCn _).symm.trans h1))];exact Left.of (rs:=[.cell 2 170,.tmp 3,.tmp 4]) o23 rfl (by kernel_rfl) rfl (qAb (x:=.ptr (some (S.next,0))) (by kernel_rfl) (o23.ldA (i:=0) (z:=14) (o:=0) (k:=S.next) (cs:=(sL x0 c0++sL x1 c1))) (qAV (by kernel_rfl) (qAV (by kernel_rfl) qA9))) rfl)⟩) (fun h1=>⟨o22.ldA (i:=0) (z:=14) (cs:=(sL x0 c0++(sL x1 c1))),e24,(by rw[show cnt=(-1) from hcn.trans (sN5 ((qCn _).symm.trans h0) ((qCn _).symm.trans h1))];exact Left.of (rs:=[.cell 2 170,.tmp 3,.tmp 4]) o24 rfl (by kernel_rfl) rfl (qAb (x:=.ptr (some (S.next,0))) (by kernel_rfl) (o24.ldA (i:=0) (z:=14) (o:=0) (k:=S.next) (cs:=(sL x0 c0++sL x1 c1))) (qAV (by kernel_rfl) (qAV (by kernel_rfl) qA9))) rfl)⟩)⟩)⟩
theorem qWr {q:CallT} {d n i q0 q1:Nat} {B0 B1:List Nat} {x0 x1:Nat→Nat} {c0 c1 i0 i1:Bool} (hq0:CallsOK Tryz.prog q) (ht:Tidy S) (hq:∀{l:List (Nat×AO)} (Y:ASt),Ov S Y l→q 121 [.ptr (some (d,0))] Y=some (.tuple [.agg (sL x0 c0++sL x1 c1),.int .i64 (.ofNat 0),.int .i64 (.ofNat 0)],Y)):qAE Tryz.prog 54 [.ptr (some (d,0))] S (.tuple [.agg (sL x0 c0),.int .i64 (.ofNat 0)],S):=by
 have o0:=Ov.nil ht;obtain⟨S1,e1,o1⟩:=o0.add (.cells zS true);obtain⟨S2,e2,o2⟩:=o1.add (.cells (zS++zS) true);obtain⟨S3,e3,o3⟩:=o2.stA (E:=EQ) (t:=170) (i:=1) (k:=S1.next) (o:=0) (z:=14) (vs:=(sL x0 c0++(sL x1 c1))) ([]) ((zS++zS)) ([]);obtain⟨S4,e4,o4⟩:=o3.stA (E:=EQ) (t:=29) (i:=0) (k:=S.next) (o:=0) (z:=7) (vs:=(sL x0 c0)) ([]) (zS) ([]);refine exD Tryz.f54 cL0 25 [2,3] qOh (qAG hq0) (qFG (qHV (qEP (fun v h=>qSv _ _ v h _)) (qCW ..))) (Eq.mp (vcL0 q d (S.next) (S1.next) x0 x1 c0 c1 S S1 S2 S3 S4 (Left EQ Tryz.f54 25 S (.tuple [.agg (sL x0 c0),.int .i64 (.ofNat 0)]))) ?_);exact⟨o0.al e1,ca (hq _ o1),o1.al e2,e3,o3.ldA (i:=1) (z:=7) (cs:=(sL x0 c0++(sL x1 c1))),e4,(Left.of (rs:=[.cell 2 29,.tmp 3]) o4 rfl (by kernel_rfl) rfl (qAb (x:=.ptr (some (S.next,0))) (by kernel_rfl) (o4.ldA (i:=0) (z:=7) (o:=0) (k:=S.next) (cs:=sL x0 c0)) (qAV (by kernel_rfl) qA9)) rfl)⟩
theorem qWq {q:CallT} {d n i q0 q1:Nat} {B0 B1:List Nat} {x0 x1:Nat→Nat} {c0 c1 i0 i1:Bool} (hq0:CallsOK Tryz.prog q) (ht:Tidy S) (hq:∀{l:List (Nat×AO)} (Y:ASt),Ov S Y l→q 121 [.ptr (some (d,0))] Y=some (.tuple [.agg (sL x0 c0++sL x1 c1),.int .i64 (.ofNat 1),.int .i64 (.ofNat 0)],Y)):qAE Tryz.prog 54 [.ptr (some (d,0))] S (.tuple [.agg (sL x1 c1),.int .i64 (.ofNat 0)],S):=by
 have o0:=Ov.nil ht;obtain⟨S1,e1,o1⟩:=o0.add (.cells zS true);obtain⟨S2,e2,o2⟩:=o1.add (.cells (zS++zS) true);obtain⟨S3,e3,o3⟩:=o2.stA (E:=EQ) (t:=170) (i:=1) (k:=S1.next) (o:=0) (z:=14) (vs:=(sL x0 c0++(sL x1 c1))) ([]) ((zS++zS)) ([]);obtain⟨S4,e4,o4⟩:=o3.stA (E:=EQ) (t:=29) (i:=0) (k:=S.next) (o:=0) (z:=7) (vs:=(sL x1 c1)) ([]) (zS) ([]);refine exD Tryz.f54 cL1 25 [2,3] qOh (qAG hq0) (qFG (qHV (qEP (fun v h=>qSv _ _ v h _)) (qCW ..))) (Eq.mp (vcL1 q d (S.next) (S1.next) x0 x1 c0 c1 S S1 S2 S3 S4 (Left EQ Tryz.f54 25 S (.tuple [.agg (sL x1 c1),.int .i64 (.ofNat 0)]))) ?_);exact⟨o0.al e1,ca (hq _ o1),o1.al e2,e3,o3.ldA (i:=1) (z:=7) (cs:=(sL x0 c0++(sL x1 c1))),e4,(Left.of (rs:=[.cell 2 29,.tmp 3]) o4 rfl (by kernel_rfl) rfl (qAb (x:=.ptr (some (S.next,0))) (by kernel_rfl) (o4.ldA (i:=0) (z:=7) (o:=0) (k:=S.next) (cs:=sL x1 c1)) (qAV (by kernel_rfl) qA9)) rfl)⟩
theorem qWp {q:CallT} {d n i q0 q1:Nat} {B0 B1:List Nat} {x0 x1:Nat→Nat} {c0 c1 i0 i1:Bool} (hq0:CallsOK Tryz.prog q) (ht:Tidy S) (hq:∀{l:List (Nat×AO)} (Y:ASt),Ov S Y l→q 121 [.ptr (some (d,0))] Y=some (.tuple [.agg (sL x0 c0++sL x1 c1),.int .i64 (-1),.int .i64 (.ofNat 0)],Y)):qAE Tryz.prog 54 [.ptr (some (d,0))] S (.tuple [.agg zS,.int .i64 (.ofNat 6)],S):=by
 have o0:=Ov.nil ht;obtain⟨S1,e1,o1⟩:=o0.add (.cells zS true);obtain⟨S2,e2,o2⟩:=o1.add (.cells (zS++zS) true);obtain⟨S3,e3,o3⟩:=o2.stA (E:=EQ) (t:=170) (i:=1) (k:=S1.next) (o:=0) (z:=14) (vs:=(sL x0 c0++(sL x1 c1))) ([]) ((zS++zS)) ([]);obtain⟨S4,e4,o4⟩:=o3.stA (E:=EQ) (t:=29) (i:=0) (k:=S.next) (o:=0) (z:=7) (vs:=zS) ([]) (zS) ([]);refine exD Tryz.f54 cLn 25 [2,3] qOh (qAG hq0) (qFG (qHV (qEP (fun v h=>qSv _ _ v h _)) (qCW ..))) (Eq.mp (vcLn q d (S.next) (S1.next) x0 x1 c0 c1 S S1 S2 S3 S4 (Left EQ Tryz.f54 25 S (.tuple [.agg zS,.int .i64 (.ofNat 6)]))) ?_);exact⟨o0.al e1,ca (hq _ o1),o1.al e2,e3,e4,(Left.of (rs:=[.cell 2 29,.tmp 3]) o4 rfl (by kernel_rfl) rfl (qAb (x:=.ptr (some (S.next,0))) (by kernel_rfl) (o4.ldA (i:=0) (z:=7) (o:=0) (k:=S.next) (cs:=zS)) (qAV (by kernel_rfl) qA9)) rfl)⟩
theorem qZB {q:CallT} {d n i q0 q1:Nat} {B0 B1:List Nat} {x0 x1:Nat→Nat} {c0 c1 i0 i1:Bool} (hq0:CallsOK Tryz.prog q) (ht:Tidy S) (hr0:∀{l:List (Nat×AO)} (Y:ASt),Ov S Y l→q 56 [.ptr (some (d,0)),.int .i64 (.ofNat i)] Y=some (.tuple [.agg (bl B0),.int .i64 (.ofNat 0)],Y)) (hs0:∀Y,q 200 [.agg (bl B0)] Y=some (.tuple [.agg (rL x0),.int .u64 (.ofNat q0),.int .i64 (.ofNat (cond i0 0 4))],Y)):qAE Tryz.prog 170 [.ptr (some (d,0)),.int .i64 (.ofNat i)] S (.tuple [.agg (rL x0),.int .u64 (.ofNat q0),.bool i0,.int .i64 (.ofNat 0)],S):=by
 have o0:=Ov.nil ht;obtain⟨S1,e1,o1⟩:=o0.add (.cells zR true);obtain⟨S2,e2,o2⟩:=o1.add (.cells (bl []) true);obtain⟨S3,e3,o3⟩:=o2.stA (E:=EQ) (t:=54) (i:=1) (k:=S1.next) (o:=0) (z:=256) (vs:=(bl B0)) ([]) ((bl [])) ([]);obtain⟨S4,e4,o4⟩:=o3.add (.cells zR true);obtain⟨S5,e5,o5⟩:=o4.stA (E:=EQ) (t:=33) (i:=2) (k:=S3.next) (o:=0) (z:=19) (vs:=(rL x0)) ([]) (zR) ([]);obtain⟨S6,e6,o6⟩:=o5.stA (E:=EQ) (t:=33) (i:=0) (k:=S.next) (o:=0) (z:=19) (vs:=(rL x0)) ([]) (zR) ([]);refine exD Tryz.f170 cSo 32 [4,5,6,7] qOh (qAG hq0) (qFG (qVH (qEP (fun v h=>qTD _ v h _)) (qCW ..) (qEL ..) (qCW ..))) (Eq.mp (vcSo q d i (S.next) (S1.next) (S3.next) q0 B0 x0 (.ofNat (cond i0 0 4)) i0 S S1 S2 S3 S4 S5 S6 (Left EQ Tryz.f170 32 S (.tuple [.agg (rL x0),.int .u64 (.ofNat q0),.bool i0,.int .i64 (.ofNat 0)]))) ?_);exact⟨o0.al e1,ca (hr0 _ o1),o1.al e2,e3,o3.ldA (i:=1) (z:=256) (cs:=(bl B0)),ca (hs0 _),o3.al e4,e5,o5.ldA (i:=2) (z:=19) (cs:=(rL x0)),eqlQ,e6,(Left.of (rs:=[.cell 4 33,.tmp 5,.tmp 6,.tmp 7]) o6 rfl (by kernel_rfl) rfl (qAb (x:=.ptr (some (S.next,0))) (by kernel_rfl) (o6.ldA (i:=0) (z:=19) (o:=0) (k:=S.next) (cs:=rL x0)) (qAV (by kernel_rfl) (qAV (by kernel_rfl) (qAV (by kernel_rfl) qA9)))) rfl)⟩
theorem q0a {q:CallT} {d n i q0 q1:Nat} {B0 B1:List Nat} {x0 x1:Nat→Nat} {c0 c1 i0 i1:Bool} (hq0:CallsOK Tryz.prog q) (ht:Tidy S) (hq1:∀{l:List (Nat×AO)} (Y:ASt),Ov S Y l→q 73 [.ptr (some (d,0))] Y=some (.int .i64 (.ofNat n),Y)) (hs0:∀{l:List (Nat×AO)} (Y:ASt),Ov S Y l→q 170 [.ptr (some (d,0)),.int .i64 (.ofNat 2)] Y=some (.tuple [.agg (rL x0),.int .u64 (.ofNat q0),.bool i0,.int .i64 (.ofNat 0)],Y)) (hs1:∀{l:List (Nat×AO)} (Y:ASt),Ov S Y l→q 170 [.ptr (some (d,0)),.int .i64 (.ofNat 3)] Y=some (.tuple [.agg (rL x1),.int .u64 (.ofNat q1),.bool i1,.int .i64 (.ofNat 0)],Y)) (hn:4≤n) (hn2:n<100000):qAE Tryz.prog 122 [.ptr (some (d,0)),.int .i64 (.ofNat 2)] S (.tuple [.agg (rL x0++rL x1),.agg [.int .u64 (.ofNat q0),.int .u64 (.ofNat q1)],.int .i64 (qFT i0 i1 (decide (q0<q1))),.int .i64 (.ofNat 0)],S):=by
 obtain⟨cnt,hcn⟩:∃c,c=qFT i0 i1 (decide (q0<q1)):=⟨_,rfl⟩;rw[←hcn];have o0:=Ov.nil ht;obtain⟨S1,e1,o1⟩:=o0.add (.cells (zR++zR) true);obtain⟨S2,e2,o2⟩:=o1.add (.cells (zU++zU) true);obtain⟨S3,e3,o3⟩:=o2.stA (E:=EQ) (t:=33) (i:=0) (k:=S.next) (o:=0) (z:=19) (vs:=(rL x0)) ([]) (zR) (zR);obtain⟨S4,e4,o4⟩:=o3.st1 (E:=EQ) (t:=24) (i:=1) (k:=S1.next) (o:=0) (v:=.int .u64 (.ofNat q0)) ((zU++zU)) (by kernel_rfl) (by kernel_rfl) (by kernel_rfl) rfl;have o5:=o4.bump 14;obtain⟨S6,e6,o6⟩:=o5.stA (E:=EQ) (t:=33) (i:=0) (k:=S.next) (o:=19) (z:=19) (vs:=(rL x1)) ((rL x0)) (zR) ([]);obtain⟨S7,e7,o7⟩:=o6.st1 (E:=EQ) (t:=24) (i:=1) (k:=S1.next) (o:=1) (v:=.int .u64 (.ofNat q1)) (([.int .u64 (.ofNat q0)]++zU)) (by kernel_rfl) (by kernel_rfl) (by kernel_rfl) rfl;have o8:=o7.bump 14;have o9:=o8.bump 7;obtain⟨S10,e10,o10⟩:=o9.stA (E:=EQ) (t:=173) (i:=0) (k:=S.next) (o:=0) (z:=38) (vs:=(rL x0++(rL x1))) ([]) ((rL x0++(rL x1))) ([]);obtain⟨S11,e11,o11⟩:=o10.stA (E:=EQ) (t:=25) (i:=1) (k:=S1.next) (o:=0) (z:=2) (vs:=[.int .u64 (.ofNat q0),.int .u64 (.ofNat q1)]) ([]) (([.int .u64 (.ofNat q0)]++[.int .u64 (.ofNat q1)])) ([]);have o12:=o8.bump 7;obtain⟨S13,e13,o13⟩:=o12.stA (E:=EQ) (t:=173) (i:=0) (k:=S.next) (o:=0) (z:=38) (vs:=(rL x0++(rL x1))) ([]) ((rL x0++(rL x1))) ([]);obtain⟨S14,e14,o14⟩:=o13.stA (E:=EQ) (t:=25) (i:=1) (k:=S1.next) (o:=0) (z:=2) (vs:=[.int .u64 (.ofNat q0),.int .u64 (.ofNat q1)]) ([]) (([.int .u64 (.ofNat q0)]++[.int .u64 (.ofNat q1)])) ([]);obtain⟨S15,e15,o15⟩:=o5.stA (E:=EQ) (t:=33) (i:=0) (k:=S.next) (o:=19) (z:=19) (vs:=(rL x1)) ((rL x0)) (zR) ([]);obtain⟨S16,e16,o16⟩:=o15.st1 (E:=EQ) (t:=24) (i:=1) (k:=S1.next) (o:=1) (v:=.int .u64 (.ofNat q1)) (([.int .u64 (.ofNat q0)]++zU)) (by kernel_rfl) (by kernel_rfl) (by kernel_rfl) rfl;have o17:=o16.bump 14;have o18:=o17.bump 7;obtain⟨S19,e19,o19⟩:=o18.stA (E:=EQ) (t:=173) (i:=0) (k:=S.next) (o:=0) (z:=38) (vs:=(rL x0++(rL x1))) ([]) ((rL x0++(rL x1))) ([]);obtain⟨S20,e20,o20⟩:=o19.stA (E:=EQ) (t:=25) (i:=1) (k:=S1.next) (o:=0) (z:=2) (vs:=[.int .u64 (.ofNat q0),.int .u64 (.ofNat q1)]) ([]) (([.int .u64 (.ofNat q0)]++[.int .u64 (.ofNat q1)])) ([]);obtain⟨S21,e21,o21⟩:=o2.stA (E:=EQ) (t:=33) (i:=0) (k:=S.next) (o:=0) (z:=19) (vs:=(rL x0)) ([]) (zR) (zR);obtain⟨S22,e22,o22⟩:=o21.st1 (E:=EQ) (t:=24) (i:=1) (k:=S1.next) (o:=0) (v:=.int .u64 (.ofNat q0)) ((zU++zU)) (by kernel_rfl) (by kernel_rfl) (by kernel_rfl) rfl;have o23:=o22.bump 14;obtain⟨S24,e24,o24⟩:=o23.stA (E:=EQ) (t:=33) (i:=0) (k:=S.next) (o:=19) (z:=19) (vs:=(rL x1)) ((rL x0)) (zR) ([]);obtain⟨S25,e25,o25⟩:=o24.st1 (E:=EQ) (t:=24) (i:=1) (k:=S1.next) (o:=1) (v:=.int .u64 (.ofNat q1)) (([.int .u64 (.ofNat q0)]++zU)) (by kernel_rfl) (by kernel_rfl) (by kernel_rfl) rfl;have o26:=o25.bump 14;have o27:=o26.bump 7;obtain⟨S28,e28,o28⟩:=o27.stA (E:=EQ) (t:=173) (i:=0) (k:=S.next) (o:=0) (z:=38) (vs:=(rL x0++(rL x1))) ([]) ((rL x0++(rL x1))) ([]);obtain⟨S29,e29,o29⟩:=o28.stA (E:=EQ) (t:=25) (i:=1) (k:=S1.next) (o:=0) (z:=2) (vs:=[.int .u64 (.ofNat q0),.int .u64 (.ofNat q1)]) ([]) (([.int .u64 (.ofNat q0)]++[.int .u64 (.ofNat q1)])) ([]);obtain⟨S30,e30,o30⟩:=o23.stA (E:=EQ) (t:=33) (i:=0) (k:=S.next) (o:=19) (z:=19) (vs:=(rL x1)) ((rL x0)) (zR) ([]);obtain⟨S31,e31,o31⟩:=o30.st1 (E:=EQ) (t:=24) (i:=1) (k:=S1.next) (o:=1) (v:=.int .u64 (.ofNat q1)) (([.int .u64 (.ofNat q0)]++zU)) (by kernel_rfl) (by kernel_rfl) (by kernel_rfl) rfl;have o32:=o31.bump 14;have o33:=o32.bump 7;obtain⟨S34,e34,o34⟩:=o33.stA (E:=EQ) (t:=173) (i:=0) (k:=S.next) (o:=0) (z:=38) (vs:=(rL x0++(rL x1))) ([]) ((rL x0++(rL x1))) ([]);obtain⟨S35,e35,o35⟩:=o34.stA (E:=EQ) (t:=25) (i:=1) (k:=S1.next) (o:=0) (z:=2) (vs:=[.int .u64 (.ofNat q0),.int .u64 (.ofNat q1)]) ([]) (([.int .u64 (.ofNat q0)]++[.int .u64 (.ofNat q1)])) ([]);refine exD Tryz.f122 cBo 71 [4,5,6,7] qOh (qAG hq0) (qFG (qVH (qEP (q0d (fun v h=>qTD _ v h _) (fun v h=>qTD _ v h _))) (qEP (qHV (qCW ..) (qCW ..))) (qCW ..) (qCW ..))) (Eq.mp (vcBo q d n (S.next) (S1.next) q0 q1 x0 x1 i0 i1 (decide (q0<q1)) S S1 S2 S3 S4 S6 S7 S10 S11 S13 S14 S15 S16 S19 S20 S21 S22 S24 S25 S28 S29 S30 S31 S34 S35 (Left EQ Tryz.f122 71 S (.tuple [.agg (rL x0++rL x1),.agg [.int .u64 (.ofNat q0),.int .u64 (.ofNat q1)],.int .i64 cnt,.int .i64 (.ofNat 0)]))) ?_);exact⟨o0.al e1,o1.al e2,ca (hq1 _ o2),eqQ hn,ca (hq1 _ o2),subQ hn hn2,geqQ hn,ca (hs0 _ o2),qBF (fun h0=>⟨e3,e4,ca (hs1 _ o5),qBF (fun h1=>⟨e6,e7,o8.ld1 (i:=1) (cs:=([.int .u64 (.ofNat q0)]++[.int .u64 (.ofNat q1)])),o8.ld1 (i:=1) (cs:=([.int .u64 (.ofNat q0)]++[.int .u64 (.ofNat q1)])),gtrQ,qBF (fun h2=>⟨o9.ldA (i:=0) (z:=38) (cs:=(rL x0++(rL x1))),o9.ldA (i:=1) (z:=2) (cs:=([.int .u64 (.ofNat q0)]++[.int .u64 (.ofNat q1)])),e10,e11,qA1 (qIJ (o10.ldA (i:=1) (z:=2) (cs:=([.int .u64 (.ofNat q0)]++[.int .u64 (.ofNat q1)])))) trivial,(by rw[show cnt=1 from hcn.trans (sN1 h0 h1 h2)];exact Left.of (rs:=[.cell 4 173,.cell 5 25,.tmp 6,.tmp 7]) o11 rfl (by kernel_rfl) rfl (qAb (x:=.ptr (some (S.next,0))) (by kernel_rfl) (o11.ldA (i:=0) (z:=38) (o:=0) (k:=S.next) (cs:=(rL x0++rL x1))) (qAb (x:=.ptr (some (S1.next,0))) (by kernel_rfl) (o11.ldA (i:=1) (z:=2) (o:=0) (k:=S1.next) (cs:=[.int .u64 (.ofNat q0),.int .u64 (.ofNat q1)])) (qAV (by kernel_rfl) (qAV (by kernel_rfl) qA9)))) rfl)⟩) (fun h2=>⟨o12.ldA (i:=0) (z:=38) (cs:=(rL x0++(rL x1))),o12.ldA (i:=1) (z:=2) (cs:=([.int .u64 (.ofNat q0)]++[.int .u64 (.ofNat q1)])),e13,e14,qA1 (qIJ (o13.ldA (i:=1) (z:=2) (cs:=([.int .u64 (.ofNat q0)]++[.int .u64 (.ofNat q1)])))) trivial,(by rw[show cnt=0 from hcn.trans (sN2 h0 h1 h2)];exact Left.of (rs:=[.cell 4 173,.cell 5 25,.tmp 6,.tmp 7]) o14 rfl (by kernel_rfl) rfl (qAb (x:=.ptr (some (S.next,0))) (by kernel_rfl) (o14.ldA (i:=0) (z:=38) (o:=0) (k:=S.next) (cs:=(rL x0++rL x1))) (qAb (x:=.ptr (some (S1.next,0))) (by kernel_rfl) (o14.ldA (i:=1) (z:=2) (o:=0) (k:=S1.next) (cs:=[.int .u64 (.ofNat q0),.int .u64 (.ofNat q1)])) (qAV (by kernel_rfl) (qAV (by kernel_rfl) qA9)))) rfl)⟩)⟩) (fun h1=>⟨e15,e16,o18.ldA (i:=0) (z:=38) (cs:=(rL x0++(rL x1))),o18.ldA (i:=1) (z:=2) (cs:=([.int .u64 (.ofNat q0)]++[.int .u64 (.ofNat q1)])),e19,e20,qA1 (qIJ (o19.ldA (i:=1) (z:=2) (cs:=([.int .u64 (.ofNat q0)]++[.int .u64 (.ofNat q1)])))) trivial,(by rw[show cnt=0 from hcn.trans (sN3 h0 h1)];exact Left.of (rs:=[.cell 4 173,.cell 5 25,.tmp 6,.tmp 7]) o20 rfl (by kernel_rfl) rfl (qAb (x:=.ptr (some (S.next,0))) (by kernel_rfl) (o20.ldA (i:=0) (z:=38) (o:=0) (k:=S.next) (cs:=(rL x0++rL x1))) (qAb (x:=.ptr (some (S1.next,0))) (by kernel_rfl) (o20.ldA (i:=1) (z:=2) (o:=0) (k:=S1.next) (cs:=[.int .u64 (.ofNat q0),.int .u64 (.ofNat q1)])) (qAV (by kernel_rfl) (qAV (by kernel_rfl) qA9)))) rfl)⟩)⟩) (fun h0=>⟨e21,e22,ca (hs1 _ o23),qBF (fun h1=>⟨e24,e25,o27.ldA (i:=0) (z:=38) (cs:=(rL x0++(rL x1))),o27.ldA (i:=1) (z:=2) (cs:=([.int .u64 (.ofNat q0)]++[.int .u64 (.ofNat q1)])),e28,e29,qA1 (qIJ (o28.ldA (i:=1) (z:=2) (cs:=([.int .u64 (.ofNat q0)]++[.int .u64 (.ofNat q1)])))) trivial,(by rw[show cnt=1 from hcn.trans (sN4 h0 h1)];exact Left.of (rs:=[.cell 4 173,.cell 5 25,.tmp 6,.tmp 7]) o29 rfl (by kernel_rfl) rfl (qAb (x:=.ptr (some (S.next,0))) (by kernel_rfl) (o29.ldA (i:=0) (z:=38) (o:=0) (k:=S.next) (cs:=(rL x0++rL x1))) (qAb (x:=.ptr (some (S1.next,0))) (by kernel_rfl) (o29.ldA (i:=1) (z:=2) (o:=0) (k:=S1.next) (cs:=[.int .u64 (.ofNat q0),.int .u64 (.ofNat q1)])) (qAV (by kernel_rfl) (qAV (by kernel_rfl) qA9)))) rfl)⟩) (fun h1=>⟨e30,e31,o33.ldA (i:=0) (z:=38) (cs:=(rL x0++(rL x1))),o33.ldA (i:=1) (z:=2) (cs:=([.int .u64 (.ofNat q0)]++[.int .u64 (.ofNat q1)])),e34,e35,qA1 (qIJ (o34.ldA (i:=1) (z:=2) (cs:=([.int .u64 (.ofNat q0)]++[.int .u64 (.ofNat q1)])))) trivial,(by rw[show cnt=(-1) from hcn.trans (sN5 h0 h1)];exact Left.of (rs:=[.cell 4 173,.cell 5 25,.tmp 6,.tmp 7]) o35 rfl (by kernel_rfl) rfl (qAb (x:=.ptr (some (S.next,0))) (by kernel_rfl) (o35.ldA (i:=0) (z:=38) (o:=0) (k:=S.next) (cs:=(rL x0++rL x1))) (qAb (x:=.ptr (some (S1.next,0))) (by kernel_rfl) (o35.ldA (i:=1) (z:=2) (o:=0) (k:=S1.next) (cs:=[.int .u64 (.ofNat q0),.int .u64 (.ofNat q1)])) (qAV (by kernel_rfl) (qAV (by kernel_rfl) qA9)))) rfl)⟩)⟩)⟩
theorem qYw {q:CallT} {d n i q0 q1:Nat} {B0 B1:List Nat} {x0 x1:Nat→Nat} {c0 c1 i0 i1:Bool} (hq0:CallsOK Tryz.prog q) (ht:Tidy S) (hq:∀{l:List (Nat×AO)} (Y:ASt),Ov S Y l→q 122 [.ptr (some (d,0)),.int .i64 (.ofNat 2)] Y=some (.tuple [.agg (rL x0++rL x1),.agg [.int .u64 (.ofNat q0),.int .u64 (.ofNat q1)],.int .i64 (.ofNat 0),.int .i64 (.ofNat 0)],Y)):qAE Tryz.prog 55 [.ptr (some (d,0)),.int .i64 (.ofNat 2)] S (.tuple [.agg (rL x0),.int .u64 (.ofNat q0),.int .i64 (.ofNat 0)],S):=by
 have o0:=Ov.nil ht;obtain⟨S1,e1,o1⟩:=o0.add (.cells zR true);obtain⟨S2,e2,o2⟩:=o1.add (.cells (zR++zR) true);obtain⟨S3,e3,o3⟩:=o2.add (.cells (zU++zU) true);obtain⟨S4,e4,o4⟩:=o3.stA (E:=EQ) (t:=173) (i:=1) (k:=S1.next) (o:=0) (z:=38) (vs:=(rL x0++(rL x1))) ([]) ((zR++zR)) ([]);obtain⟨S5,e5,o5⟩:=o4.stA (E:=EQ) (t:=25) (i:=2) (k:=S2.next) (o:=0) (z:=2) (vs:=[.int .u64 (.ofNat q0),.int .u64 (.ofNat q1)]) ([]) ((zU++zU)) ([]);have o6:=o5.bump 9;obtain⟨S7,e7,o7⟩:=o6.stA (E:=EQ) (t:=33) (i:=0) (k:=S.next) (o:=0) (z:=19) (vs:=(rL x0)) ([]) (zR) ([]);refine exD Tryz.f55 cK0 35 [4,5,6] qOh (qAG hq0) (qFG (qJY (qEP (fun v h=>qTD _ v h _)) (qCW ..) (qCW ..))) (Eq.mp (vcK0 q d (S.next) (S1.next) (S2.next) q0 q1 x0 x1 S S1 S2 S3 S4 S5 S7 (Left EQ Tryz.f55 35 S (.tuple [.agg (rL x0),.int .u64 (.ofNat q0),.int .i64 (.ofNat 0)]))) ?_);exact⟨o0.al e1,ca (hq _ o1),o1.al e2,o2.al e3,e4,e5,o6.ldA (i:=1) (z:=19) (cs:=(rL x0++(rL x1))),o6.ld1 (i:=2) (cs:=[.int .u64 (.ofNat q0),.int .u64 (.ofNat q1)]),e7,qA1 (qIJ (o7.ld1 (i:=2) (cs:=[.int .u64 (.ofNat q0),.int .u64 (.ofNat q1)]))) trivial,(Left.of (rs:=[.cell 4 33,.tmp 5,.tmp 6]) o7 rfl (by kernel_rfl) rfl (qAb (x:=.ptr (some (S.next,0))) (by kernel_rfl) (o7.ldA (i:=0) (z:=19) (o:=0) (k:=S.next) (cs:=rL x0)) (qAV (by kernel_rfl) (qAV (by kernel_rfl) qA9))) rfl)⟩
theorem qYv {q:CallT} {d n i q0 q1:Nat} {B0 B1:List Nat} {x0 x1:Nat→Nat} {c0 c1 i0 i1:Bool} (hq0:CallsOK Tryz.prog q) (ht:Tidy S) (hq:∀{l:List (Nat×AO)} (Y:ASt),Ov S Y l→q 122 [.ptr (some (d,0)),.int .i64 (.ofNat 2)] Y=some (.tuple [.agg (rL x0++rL x1),.agg [.int .u64 (.ofNat q0),.int .u64 (.ofNat q1)],.int .i64 (.ofNat 1),.int .i64 (.ofNat 0)],Y)):qAE Tryz.prog 55 [.ptr (some (d,0)),.int .i64 (.ofNat 2)] S (.tuple [.agg (rL x1),.int .u64 (.ofNat q1),.int .i64 (.ofNat 0)],S):=by
 have o0:=Ov.nil ht;obtain⟨S1,e1,o1⟩:=o0.add (.cells zR true);obtain⟨S2,e2,o2⟩:=o1.add (.cells (zR++zR) true);obtain⟨S3,e3,o3⟩:=o2.add (.cells (zU++zU) true);obtain⟨S4,e4,o4⟩:=o3.stA (E:=EQ) (t:=173) (i:=1) (k:=S1.next) (o:=0) (z:=38) (vs:=(rL x0++(rL x1))) ([]) ((zR++zR)) ([]);obtain⟨S5,e5,o5⟩:=o4.stA (E:=EQ) (t:=25) (i:=2) (k:=S2.next) (o:=0) (z:=2) (vs:=[.int .u64 (.ofNat q0),.int .u64 (.ofNat q1)]) ([]) ((zU++zU)) ([]);have o6:=o5.bump 9;obtain⟨S7,e7,o7⟩:=o6.stA (E:=EQ) (t:=33) (i:=0) (k:=S.next) (o:=0) (z:=19) (vs:=(rL x1)) ([]) (zR) ([]);refine exD Tryz.f55 cK1 35 [4,5,6] qOh (qAG hq0) (qFG (qJY (qEP (fun v h=>qTD _ v h _)) (qCW ..) (qCW ..))) (Eq.mp (vcK1 q d (S.next) (S1.next) (S2.next) q0 q1 x0 x1 S S1 S2 S3 S4 S5 S7 (Left EQ Tryz.f55 35 S (.tuple [.agg (rL x1),.int .u64 (.ofNat q1),.int .i64 (.ofNat 0)]))) ?_);exact⟨o0.al e1,ca (hq _ o1),o1.al e2,o2.al e3,e4,e5,o6.ldA (i:=1) (z:=19) (cs:=(rL x0++(rL x1))),o6.ld1 (i:=2) (cs:=[.int .u64 (.ofNat q0),.int .u64 (.ofNat q1)]),e7,qA1 (qIJ (o7.ld1 (i:=2) (cs:=[.int .u64 (.ofNat q0),.int .u64 (.ofNat q1)]))) trivial,(Left.of (rs:=[.cell 4 33,.tmp 5,.tmp 6]) o7 rfl (by kernel_rfl) rfl (qAb (x:=.ptr (some (S.next,0))) (by kernel_rfl) (o7.ldA (i:=0) (z:=19) (o:=0) (k:=S.next) (cs:=rL x1)) (qAV (by kernel_rfl) (qAV (by kernel_rfl) qA9))) rfl)⟩
theorem qYs {q:CallT} {d n i q0 q1:Nat} {B0 B1:List Nat} {x0 x1:Nat→Nat} {c0 c1 i0 i1:Bool} (hq0:CallsOK Tryz.prog q) (ht:Tidy S) (hq:∀{l:List (Nat×AO)} (Y:ASt),Ov S Y l→q 122 [.ptr (some (d,0)),.int .i64 (.ofNat 2)] Y=some (.tuple [.agg (rL x0++rL x1),.agg [.int .u64 (.ofNat q0),.int .u64 (.ofNat q1)],.int .i64 (-1),.int .i64 (.ofNat 0)],Y)):qAE Tryz.prog 55 [.ptr (some (d,0)),.int .i64 (.ofNat 2)] S (.tuple [.agg zR,.int .u64 (.ofNat 0),.int .i64 (.ofNat 6)],S):=by
 have o0:=Ov.nil ht;obtain⟨S1,e1,o1⟩:=o0.add (.cells zR true);obtain⟨S2,e2,o2⟩:=o1.add (.cells (zR++zR) true);obtain⟨S3,e3,o3⟩:=o2.add (.cells (zU++zU) true);obtain⟨S4,e4,o4⟩:=o3.stA (E:=EQ) (t:=173) (i:=1) (k:=S1.next) (o:=0) (z:=38) (vs:=(rL x0++(rL x1))) ([]) ((zR++zR)) ([]);obtain⟨S5,e5,o5⟩:=o4.stA (E:=EQ) (t:=25) (i:=2) (k:=S2.next) (o:=0) (z:=2) (vs:=[.int .u64 (.ofNat q0),.int .u64 (.ofNat q1)]) ([]) ((zU++zU)) ([]);obtain⟨S6,e6,o6⟩:=o5.stA (E:=EQ) (t:=33) (i:=0) (k:=S.next) (o:=0) (z:=19) (vs:=zR) ([]) (zR) ([]);refine exD Tryz.f55 cKn 35 [4,5,6] qOh (qAG hq0) (qFG (qJY (qEP (fun v h=>qTD _ v h _)) (qCW ..) (qCW ..))) (Eq.mp (q18 q d (S.next) (S1.next) (S2.next) q0 q1 x0 x1 S S1 S2 S3 S4 S5 S6 (Left EQ Tryz.f55 35 S (.tuple [.agg zR,.int .u64 (.ofNat 0),.int .i64 (.ofNat 6)]))) ?_);exact⟨o0.al e1,ca (hq _ o1),o1.al e2,o2.al e3,e4,e5,e6,(Left.of (rs:=[.cell 4 33,.tmp 5,.tmp 6]) o6 rfl (by kernel_rfl) rfl (qAb (x:=.ptr (some (S.next,0))) (by kernel_rfl) (o6.ldA (i:=0) (z:=19) (o:=0) (k:=S.next) (cs:=zR)) (qAV (by kernel_rfl) (qAV (by kernel_rfl) qA9))) rfl)⟩
end
end
section
open cd cd2 cd3 cd4 cd5 cd9
noncomputable def qR7 (d:Nat) (las:List (List Nat)) (es:List dsk.En) (k:Nat) (ar:List AV) (v:AV):CallT:=fun f args st=>open Classical in if f=k∧args=ar∧Dsk st d las es then some (v,st) else none
theorem qF7 {d:Nat} {las:List (List Nat)} {es:List dsk.En} {k:Nat} {ar:List AV} {v:AV} (h:∀S,Dsk S d las es→qAE Tryz.prog k ar S (v,S)):CallsOK Tryz.prog (qR7 d las es k ar v):=fun B w0 f args st r hr ι w args' hsr hv=>by
 unfold qR7 at hr
 split at hr
 ·rename_i hh;obtain⟨rfl,rfl,hD⟩:=hh;simp only[qz1] at hr;subst hr;exact h st hD B w0 ι w args' hsr hv
 ·cases hr
theorem qF8 {d:Nat} {las:List (List Nat)} {es:List dsk.En} {k:Nat} {ar:List AV} {v:AV} {S:ASt} (h:Dsk S d las es):qR7 d las es k ar v k ar S=some (v,S):=by unfold qR7;rw[if_pos ⟨rfl,rfl,h⟩]
theorem qCp {d:Nat} {las:List (List Nat)} {es:List dsk.En} {k f:Nat} {ar args:List AV} {v:AV} {S:ASt} (h:f≠k):qR7 d las es k ar v f args S=none:=by unfold qR7;rw[if_neg (fun x=>h x.1)]
theorem qXT {d:Nat} {las:List (List Nat)} {es:List dsk.En} {k f:Nat} {ar args:List AV} {v:AV} {S:ASt} (h:args≠ar):qR7 d las es k ar v f args S=none:=by unfold qR7;rw[if_neg (fun x=>h x.2.1)]
theorem qDq (a b g:Bool):qFT a b g=0∨qFT a b g=1∨qFT a b g=-1:=by
 cases a<;>cases b<;>cases g<;>simp[qFT]
def qU9 {α:Type} (n:Int) (v0 v1 vn:α):α:=if n=0 then v0 else if n=1 then v1 else vn
section
variable (H:List Nat→Nat→Nat) (X:List Nat→Nat) (b:Nat→List Nat)
def nS:Int:=qFT (iS H (b 0)) (iS H (b 1)) (decide (sX H (b 0) 5<sX H (b 1) 5))
def LSx:Nat→Nat:=qU9 (nS H b) (sX H (b 0)) (sX H (b 1)) (fun _=>0)
def LSc:Bool:=qU9 (nS H b) (sC H (b 0)) (sC H (b 1)) false
def LSe:Nat:=qU9 (nS H b) 0 0 6
def nK:Int:=qFT (iK X (b 2)) (iK X (b 3)) (decide (rQ X (b 2)<rQ X (b 3)))
def LKx:Nat→Nat:=qU9 (nK X b) (rX X (b 2)) (rX X (b 3)) (fun _=>0)
def LKq:Nat:=qU9 (nK X b) (rQ X (b 2)) (rQ X (b 3)) 0
def LKe:Nat:=qU9 (nK X b) 0 0 6
end
section
variable {q q2:CallT} {H:List Nat→Nat→Nat} {X:List Nat→Nat} {S:ASt} {d:Nat} {las:List (List Nat)} {es:List dsk.En}
theorem qJ1 (hS:Sums q H) (hD:Dsk S d las es) (hn:2≤las.length):qAE Tryz.prog 121 [.ptr (some (d,0))] S (.tuple [.agg (sL (sX H (nb las es 0)) (sC H (nb las es 0))++sL (sX H (nb las es 1)) (sC H (nb las es 1))),.int .i64 (nS H (nb las es)),.int .i64 (.ofNat 0)],S) :=
 qWG (i:=0) (q0:=0) (q1:=0) (orC_ok qCw (qG8 (q1z hS))) hD.tidy (fun Y o=>qAo (qF9 (hD.over o))) (fun Y o=>qAo (qG6 (hD.over o) (by omega))) (fun Y o=>qAo (qG6 (hD.over o) (by omega)))
  (fun Y=>qAW (qBl (by decide) (by decide)) (qFb (hD.bk 0) Y)) (fun Y=>qAW (qBl (by decide) (by decide)) (qFb (hD.bk 1) Y)) hn
theorem qQd (hS:Sums q H) (hD:Dsk S d las es) (hn:2≤las.length):qAE Tryz.prog 54 [.ptr (some (d,0))] S (.tuple [.agg (sL (LSx H (nb las es)) (LSc H (nb las es))),.int .i64 (.ofNat (LSe H (nb las es)))],S):=by
 have hok:=qF7 (fun S (hD:Dsk S d las es)=>qJ1 hS hD hn);have hat:∀{l:List (Nat×AO)} (Y:ASt),Ov S Y l→_:=fun Y o=>qF8 (k:=121) (ar:=[.ptr (some (d,0))]) (v:=.tuple [.agg (sL (sX H (nb las es 0)) (sC H (nb las es 0))++sL (sX H (nb las es 1)) (sC H (nb las es 1))),.int .i64 (nS H (nb las es)),.int .i64 (.ofNat 0)]) (hD.over o);unfold LSx LSc LSe;rcases qDq (iS H (nb las es 0)) (iS H (nb las es 1)) (decide (sX H (nb las es 0) 5<sX H (nb las es 1) 5)) with h | h | h
 ·rw[show nS H (nb las es)=0 from h] at hok hat ⊢;exact qWr (n:=0) (i:=0) (q0:=0) (q1:=0) (B0:=[]) (B1:=[]) (i0:=true) (i1:=true) hok hD.tidy (fun Y o=>hat Y o)
 ·rw[show nS H (nb las es)=1 from h] at hok hat ⊢;exact qWq (n:=0) (i:=0) (q0:=0) (q1:=0) (B0:=[]) (B1:=[]) (i0:=true) (i1:=true) hok hD.tidy (fun Y o=>hat Y o)
 ·rw[show nS H (nb las es)=-1 from h] at hok hat ⊢;exact qWp (n:=0) (i:=0) (q0:=0) (q1:=0) (B0:=[]) (B1:=[]) (i0:=true) (i1:=true) hok hD.tidy (fun Y o=>hat Y o)
theorem qU7 (hX:Shorts q X) (hD:Dsk S d las es) {i:Nat} (hn:i<las.length):qAE Tryz.prog 170 [.ptr (some (d,0)),.int .i64 (.ofNat i)] S (.tuple [.agg (rL (rX X (nb las es i))),.int .u64 (.ofNat (rQ X (nb las es i))),.bool (iK X (nb las es i)),.int .i64 (.ofNat 0)],S) :=
 qZB (n:=0) (q1:=0) (B1:=[]) (x1:=fun _=>0) (c0:=true) (c1:=true) (i1:=true) (orC_ok qCw (qG8 (q23 hX))) hD.tidy (fun Y o=>qAo (qG6 (hD.over o) hn))
  (fun Y=>qAW (qBl (by decide) (by decide)) (qFb (hD.bk i) Y))
theorem qNt (hX:Shorts q X) (hD:Dsk S d las es) (hn:4≤las.length) (hn2:las.length<100000):qAE Tryz.prog 122 [.ptr (some (d,0)),.int .i64 (.ofNat 2)] S (.tuple [.agg (rL (rX X (nb las es 2))++rL (rX X (nb las es 3))),.agg [.int .u64 (.ofNat (rQ X (nb las es 2))),.int .u64 (.ofNat (rQ X (nb las es 3)))],.int .i64 (nK X (nb las es)),.int .i64 (.ofNat 0)],S) :=
 q0a (i:=0) (B0:=[]) (B1:=[]) (c0:=true) (c1:=true) (orC_ok qCw (orC_ok (qF7 (fun S hD=>qU7 hX hD (show 2<las.length by omega))) (qF7 (fun S hD=>qU7 hX hD (show 3<las.length by omega))))) hD.tidy (fun Y o=>qAo (qF9 (hD.over o)))
  (fun Y o=>qAW (qBl (by decide) (by decide)) (qAo (qF8 (hD.over o)))) (fun Y o=>qAW (qBl (by decide) (by decide)) (qAW (qXT (by simp)) (qF8 (hD.over o)))) hn hn2
theorem qYt (hX:Shorts q X) (hD:Dsk S d las es) (hn:4≤las.length) (hn2:las.length<100000):qAE Tryz.prog 55 [.ptr (some (d,0)),.int .i64 (.ofNat 2)] S (.tuple [.agg (rL (LKx X (nb las es))),.int .u64 (.ofNat (LKq X (nb las es))),.int .i64 (.ofNat (LKe X (nb las es)))],S):=by
 have hok:=qF7 (fun S (hD:Dsk S d las es)=>qNt hX hD hn hn2);have hat:∀{l:List (Nat×AO)} (Y:ASt),Ov S Y l→_:=fun Y o=>qF8 (k:=122) (ar:=[.ptr (some (d,0)),.int .i64 (.ofNat 2)]) (v:=.tuple [.agg (rL (rX X (nb las es 2))++rL (rX X (nb las es 3))),.agg [.int .u64 (.ofNat (rQ X (nb las es 2))),.int .u64 (.ofNat (rQ X (nb las es 3)))],.int .i64 (nK X (nb las es)),.int .i64 (.ofNat 0)]) (hD.over o);unfold LKx LKq LKe;rcases qDq (iK X (nb las es 2)) (iK X (nb las es 3)) (decide (rQ X (nb las es 2)<rQ X (nb las es 3))) with h | h | h
 ·rw[show nK X (nb las es)=0 from h] at hok hat ⊢;exact qYw (n:=0) (i:=0) (B0:=[]) (B1:=[]) (c0:=true) (c1:=true) (i0:=true) (i1:=true) hok hD.tidy (fun Y o=>hat Y o)
 ·rw[show nK X (nb las es)=1 from h] at hok hat ⊢;exact qYv (n:=0) (i:=0) (B0:=[]) (B1:=[]) (c0:=true) (c1:=true) (i0:=true) (i1:=true) hok hD.tidy (fun Y o=>hat Y o)
 ·rw[show nK X (nb las es)=-1 from h] at hok hat ⊢;exact qYs (n:=0) (i:=0) (B0:=[]) (B1:=[]) (c0:=true) (c1:=true) (i0:=true) (i1:=true) hok hD.tidy (fun Y o=>hat Y o)
end
end
section
noncomputable def fnsK:List (Nat×Func):=[(15,Tryz.f15),(53,Tryz.f53),(120,Tryz.f120),(58,Tryz.f58)]
noncomputable def ETk:Env:=envEx Tryz.prog [0,3,4,5,23,24,25,27,28,29,30,31,32,33,34,35,36,37,43,54,60,102,103,104,111] fnsK []
def zM:List AV:=.int .i64 (.ofNat 0)::(zS++(zR++[.int .u64 (.ofNat 0),.bool false,.int .u64 (.ofNat 0),.int .u64 (.ofNat 0),.int .u16 (.ofNat 0)]))
def mL (k:Nat) (x:Nat→Nat) (c:Bool) (y:Nat→Nat) (t:Nat) (mk:Bool) (se nu ho:Nat):List AV:=.int .i64 (.ofNat k)::(sL x c++(rL y++[.int .u64 (.ofNat t),.bool mk,.int .u64 (.ofNat se),.int .u64 (.ofNat nu),.int .u16 (.ofNat ho)]))
noncomputable def cTk:Code:=Option.getD Tryz.f15.body .skip
noncomputable def LTk:Code:=qSX (qSY (seqR (seqL (qAg 7 cTk))))
noncomputable abbrev qGf (a:CallT):=qA0 [53,54,55,56,57,58,59] a
noncomputable abbrev qBr (a:Nat):=AV.int .i64 (.ofNat a)
noncomputable abbrev qIn (a b:Nat):List AV:=[.ptr (some (a,0)),.int .i64 (.ofNat b)]
noncomputable abbrev qEg (a:CallT) (b:Nat):=M ETk (drawA ETk) (qGf a) b
abbrev qIv:Fl:=⟨[4,18,27,37,49,7,57,58,66,79,78,73,11,87,88,97,98,102,104,105,111,112,4095,4094],[],[62,66,93,98,105],[]⟩
theorem vcTs (q:CallT) (d k t k0:Nat) (x y:Nat→Nat) (c:Bool) (S S1 S2 S3 S4:ASt) (Q:qz2) :
 Vq ((TM ETk (qGf q) [] fl0 60).ex qIv none cTk {m:=qAM [.ptr (some (d,0)),.int .i64 (.ofNat k)] 0 .e,n:=113,defs:=[]} S) (fun r=>Q (qAx [4,5] r)) (aa (qAY ETk 36 S) (.ptr (some (k0,0)),S1) (al ((qEg q 56).call 53 (qIn d k)) S1 (qBr 0) (aa (Option.map (fun s=>(qAC,s)) (qAL ETk 3 (.ptr (some (k0,0))) (qBr k) S1)) (.tuple [],S2) (al ((qEg q 54).call 54 [.ptr (some (d,0))]) S2 (.tuple [.agg (sL x c),.int .i64 (.ofNat 6)]) (aa (Option.map (fun s=>(qAC,s)) (qAL ETk 29 (.ptr (some (k0,1))) (.agg (sL x c)) S2)) (.tuple [],S3) (aa (Option.map (fun s=>(qAC,s)) (qAL ETk 36 (.ptr (some (k0,0))) (.agg zM) S3)) (.tuple [],S4) (aq (Q (.ret,xFr [(4,.ptr (some (k0,0))),(5,.int .i64 (.ofNat 6))] 113,S4))))))))):=vq (by kernel_rfl)
noncomputable abbrev qEh (a:Nat):=AV.int .u64 (.ofNat a)
theorem vcTk (q:CallT) (d k t k0:Nat) (x y:Nat→Nat) (c:Bool) (S S1 S2 S3 S4 S5 S6:ASt) (Q:qz2) :
 Vq ((TM ETk (qGf q) [] fl0 60).ex qIv none cTk {m:=qAM [.ptr (some (d,0)),.int .i64 (.ofNat k)] 0 .e,n:=113,defs:=[]} S) (fun r=>Q (qAx [4,5] r)) (aa (qAY ETk 36 S) (.ptr (some (k0,0)),S1) (al ((qEg q 56).call 53 (qIn d k)) S1 (qBr 0) (aa (Option.map (fun s=>(qAC,s)) (qAL ETk 3 (.ptr (some (k0,0))) (qBr k) S1)) (.tuple [],S2) (al ((qEg q 54).call 54 [.ptr (some (d,0))]) S2 (.tuple [.agg (sL x c),.int .i64 (.ofNat 0)]) (aa (Option.map (fun s=>(qAC,s)) (qAL ETk 29 (.ptr (some (k0,1))) (.agg (sL x c)) S2)) (.tuple [],S3) (al ((qEg q 53).call 55 (qIn d 2)) S3 (.tuple [.agg (rL y),.int .u64 (.ofNat t),.int .i64 (.ofNat 6)]) (aa (Option.map (fun s=>(qAC,s)) (qAL ETk 33 (.ptr (some (k0,8))) (.agg (rL y)) S3)) (.tuple [],S4) (aa (Option.map (fun s=>(qAC,s)) (qAL ETk 24 (.ptr (some (k0,27))) (qEh t) S4)) (.tuple [],S5) (aa (Option.map (fun s=>(qAC,s)) (qAL ETk 36 (.ptr (some (k0,0))) (.agg zM) S5)) (.tuple [],S6) (aq (Q (.ret,xFr [(4,.ptr (some (k0,0))),(5,.int .i64 (.ofNat 6))] 113,S6)))))))))))):=vq (by kernel_rfl)
theorem vcP (q:CallT) (d k t ms k0 k1:Nat) (x y:Nat→Nat) (c by_:Bool) (e:Int) (B0:List Nat) (S S1 S2 S3 S4 S5 S6 S7 S8 S9:ASt) (Q:qz2) :
 Vq ((TM ETk (qGf q) [] fl0 60).ex qIv none (qL5 7 cTk) {m:=qAM [.ptr (some (d,0)),.int .i64 (.ofNat k)] 0 .e,n:=113,defs:=[]} S) (fun r=>Q (qAx [0,1,4] r)) (aa (qAY ETk 36 S) (.ptr (some (k0,0)),S1) (al ((qEg q 56).call 53 (qIn d k)) S1 (qBr 0) (aa (Option.map (fun s=>(qAC,s)) (qAL ETk 3 (.ptr (some (k0,0))) (qBr k) S1)) (.tuple [],S2) (al ((qEg q 54).call 54 [.ptr (some (d,0))]) S2 (.tuple [.agg (sL x c),.int .i64 (.ofNat 0)]) (aa (Option.map (fun s=>(qAC,s)) (qAL ETk 29 (.ptr (some (k0,1))) (.agg (sL x c)) S2)) (.tuple [],S3) (al ((qEg q 53).call 55 (qIn d 2)) S3 (.tuple [.agg (rL y),.int .u64 (.ofNat t),.int .i64 (.ofNat 0)]) (aa (Option.map (fun s=>(qAC,s)) (qAL ETk 33 (.ptr (some (k0,8))) (.agg (rL y)) S3)) (.tuple [],S4) (aa (Option.map (fun s=>(qAC,s)) (qAL ETk 24 (.ptr (some (k0,27))) (qEh t) S4)) (.tuple [],S5) (al ((qEg q 53).call 56 (qIn d 4)) S5 (.tuple [.agg (bl B0),.int .i64 (.ofNat 0)]) (aa (qAY ETk 54 S5) (.ptr (some (k1,0)),S6) (aa (Option.map (fun s=>(qAC,s)) (qAL ETk 54 (.ptr (some (k1,0))) (.agg (bl B0)) S6)) (.tuple [],S7) (al (qAQ ETk 54 (.ptr (some (k1,0)))) S7 (.agg (bl B0)) (al ((qEg q 51).call 57 [.agg (bl B0)]) S7 (.tuple [.int .u64 (.ofNat ms),.int .i64 e]) (ai (eqF e (.ofNat 0)) (al ((qEg q 50).call 58 [.int .u64 (.ofNat ms),.int .i64 (.ofNat k)]) S7 (.bool by_) (ai by_ (aq (Q (.normal,xFr [(0,.ptr (some (d,0))),(1,.int .i64 (.ofNat k)),(4,.ptr (some (k0,0)))] 113,S7))) (aa (Option.map (fun s=>(qAC,s)) (qAL ETk 4 (.ptr (some (k0,28))) (.bool true) S7)) (.tuple [],S8) (aa (Option.map (fun s=>(qAC,s)) (qAL ETk 24 (.ptr (some (k0,29))) (qEh ms) S8)) (.tuple [],S9) (aq (Q (.normal,xFr [(0,.ptr (some (d,0))),(1,.int .i64 (.ofNat k)),(4,.ptr (some (k0,0)))] 113,S9))))))) (aq (Q (.normal,xFr [(0,.ptr (some (d,0))),(1,.int .i64 (.ofNat k)),(4,.ptr (some (k0,0)))] 113,S7))))))))))))))))):=vq (by kernel_rfl)
theorem vcR (q:CallT) (d k i M t se nu ho n1 h1 k0:Nat) (x y:Nat→Nat) (c mk g r:Bool) (e:Int) (B0:List Nat) (S0 S1 S2 S3 S4:ASt) (Q:qz2) :
 Vq ((TM ETk (qGf q) [] fl0 60).ex qIv none LTk (xFr [(0,.ptr (some (d,0))),(1,.int .i64 (.ofNat k)),(4,.ptr (some (M,0))),(72,.int .i64 (.ofNat i))] 113) S0) (fun r=>Q (qAx [0,1,4,72] r)) (as_ S0 (qAD ETk .lss 3 (.tmp 72) (.const (.int .i64 4)) (qBr i) (qBr 4)) (.bool true) (as_ S0 (qAD ETk .add 3 (.const (.int .i64 5)) (.tmp 77) (qBr 5) (qBr i)) (.int .i64 (.ofNat (5+i))) (al ((Ax.M ETk (drawA ETk) (qGf q) 53).call 56 [.ptr (some (d,0)),.int .i64 (.ofNat (5+i))]) S0 (.tuple [.agg (bl B0),.int .i64 (.ofNat 0)]) (aa (qAY ETk 54 S0) (.ptr (some (k0,0)),S1) (aa (Option.map (fun s=>(qAC,s)) (qAL ETk 54 (.ptr (some (k0,0))) (.agg (bl B0)) S1)) (.tuple [],S2) (al (qAQ ETk 54 (.ptr (some (k0,0)))) S2 (.agg (bl B0)) (al ((Ax.M ETk (drawA ETk) (qGf q) 51).call 59 [.agg (bl B0)]) S2 (.tuple [.int .u64 (.ofNat n1),.int .u16 (.ofNat h1),.int .i64 e]) (ai (eqF e (.ofNat 0)) (al (qAQ ETk 24 (.ptr (some (M,30)))) S2 (qEh nu) (as_ S2 (qAD ETk .gtr 24 (.tmp 95) (.tmp 97) (qEh n1) (qEh nu)) (.bool g) (ai g (as_ S2 (qAD ETk .rem 24 (.tmp 101) (.const (.int .u64 4)) (qEh n1) (qEh 4)) (.int .u64 (.ofNat (n1 % 4))) (al (qA5 ETk 3 24 (qBr i)) S2 (qEh i) (as_ S2 (qAD ETk .eql 24 (.tmp 102) (.tmp 104) (.int .u64 (.ofNat (n1 % 4))) (qEh i)) (.bool r) (ai r (aa (Option.map (fun s=>(qAC,s)) (qAL ETk 24 (.ptr (some (M,30))) (qEh n1) S2)) (.tuple [],S3) (aa (Option.map (fun s=>(qAC,s)) (qAL ETk 34 (.ptr (some (M,31))) (.int .u16 (.ofNat h1)) S3)) (.tuple [],S4) (as_ S4 (qAD ETk .add 3 (.tmp 72) (.const (.int .i64 1)) (qBr i) (qBr 1)) (.int .i64 (.ofNat (i+1))) (aq (Q (.normal,xFr [(0,.ptr (some (d,0))),(1,.int .i64 (.ofNat k)),(4,.ptr (some (M,0))),(72,.int .i64 (.ofNat (i+1)))] 113,S4)))))) (as_ S2 (qAD ETk .add 3 (.tmp 72) (.const (.int .i64 1)) (qBr i) (qBr 1)) (.int .i64 (.ofNat (i+1))) (aq (Q (.normal,xFr [(0,.ptr (some (d,0))),(1,.int .i64 (.ofNat k)),(4,.ptr (some (M,0))),(72,.int .i64 (.ofNat (i+1)))] 113,S2)))))))) (as_ S2 (qAD ETk .add 3 (.tmp 72) (.const (.int .i64 1)) (qBr i) (qBr 1)) (.int .i64 (.ofNat (i+1))) (aq (Q (.normal,xFr [(0,.ptr (some (d,0))),(1,.int .i64 (.ofNat k)),(4,.ptr (some (M,0))),(72,.int .i64 (.ofNat (i+1)))] 113,S2))))))) (as_ S2 (qAD ETk .add 3 (.tmp 72) (.const (.int .i64 1)) (qBr i) (qBr 1)) (.int .i64 (.ofNat (i+1))) (aq (Q (.normal,xFr [(0,.ptr (some (d,0))),(1,.int .i64 (.ofNat k)),(4,.ptr (some (M,0))),(72,.int .i64 (.ofNat (i+1)))] 113,S2)))))))))))):=vq (by kernel_rfl)
theorem vcRx (q:CallT) (d k i M t se nu ho n1 h1:Nat) (x y:Nat→Nat) (c mk g r:Bool) (e:Int) (B0:List Nat) (S0:ASt) (Q:qz2) :
 Vq ((TM ETk (qGf q) [] fl0 60).ex qIv none LTk (xFr [(0,.ptr (some (d,0))),(1,.int .i64 (.ofNat k)),(4,.ptr (some (M,0))),(72,.int .i64 (.ofNat i))] 113) S0) (fun r=>Q (qAx [0,1,4] r)) (as_ S0 (qAD ETk .lss 3 (.tmp 72) (.const (.int .i64 4)) (qBr i) (qBr 4)) (.bool false) (aq (Q (.exit 0,xFr [(0,.ptr (some (d,0))),(1,.int .i64 (.ofNat k)),(4,.ptr (some (M,0)))] 113,S0)))):=vq (by kernel_rfl)
theorem q1a (M d k t se nu ho:Nat) (x y:Nat→Nat) (c mk:Bool) (S0 S1:ASt) (Q:qz2) :
 Vq ((TM ETk qAa [] fl0 60).ex qIv none (qAg 8 cTk) (xFr [(0,.ptr (some (d,0))),(1,.int .i64 (.ofNat k)),(4,.ptr (some (M,0)))] 113) S0) (fun r=>Q (qAx [4,5] r)) (al (qAQ ETk 36 (.ptr (some (M,0)))) S0 (.agg (mL k x c y t mk se nu ho)) (aa (Option.map (fun s=>(qAC,s)) (qAL ETk 36 (.ptr (some (M,0))) (.agg (mL k x c y t mk se nu ho)) S0)) (.tuple [],S1) (aq (Q (.ret,xFr [(4,.ptr (some (M,0))),(5,.int .i64 (.ofNat 0))] 113,S1))))):=vq (by kernel_rfl)
end
namespace oo
noncomputable def fnsO:List (Nat×Func):=[(58,Tryz.f58),(53,Tryz.f53),(120,Tryz.f120),(110,Tryz.f110),(50,Tryz.f50)]
noncomputable def EO:Env:=envEx Tryz.prog [0,3,4,5,24,37,43] fnsO []
noncomputable abbrev qQp (a:CallT):=TM EO (qA0 [73,110] a) [(58,⟨[6,10,11],[],[],[]⟩),(53,⟨[7,8,12,17,18],[11,15],[],[]⟩),(120,⟨[4,7,10],[],[],[]⟩)] fl0 60
noncomputable abbrev qBg (a:Nat):=AV.int .i64 (.ofNat a)
noncomputable abbrev qN0:=Operand.const (Value.int .i64 64)
noncomputable abbrev qNY (a:Nat):=AV.int .u64 (.ofNat a)
theorem vcNa (q:CallT) (s k v:Nat) (g:Bool) (S:ASt) (Q:AV×ASt→Prop) :
 Vq ((qQp q).call 58 [.int .u64 (.ofNat s),.int .i64 (.ofNat k)] S) Q (as_ S (qAD EO .lss 3 (.tmp 5) qN0 (qBg k) (qBg 64)) (.bool true) (as_ S (qAD EO .shr 24 (.tmp 8) (.tmp 9) (qNY s) (qBg k)) (qNY v) (as_ S (qAD EO .neq 24 (.tmp 10) (.const (.int .u64 0)) (qNY v) (qNY 0)) (.bool g) (aq (Q (.bool g,S)))))):=vq (by kernel_rfl)
theorem vcNb (q:CallT) (s k v:Nat) (g:Bool) (S:ASt) (Q:AV×ASt→Prop) :
 Vq ((qQp q).call 58 [.int .u64 (.ofNat s),.int .i64 (.ofNat k)] S) Q (as_ S (qAD EO .lss 3 (.tmp 5) qN0 (qBg k) (qBg 64)) (.bool false) (aq (Q (.bool false,S)))):=vq (by kernel_rfl)
noncomputable abbrev qNZ (a b:Nat):=AV.int .i64 (.ofNat (a+b))
noncomputable abbrev qVA:=Operand.const (Value.int .i64 1)
noncomputable abbrev qUz:=Operand.const (Value.int .i64 0)
noncomputable abbrev qUy (a:CallT) (b:Nat):=M EO (drawA EO) (qA0 [73,110] a) b
theorem q1b (q:CallT) (d n k:Nat) (S:ASt) (Q:AV×ASt→Prop) :
 Vq ((qQp q).call 53 [.ptr (some (d,0)),.int .i64 (.ofNat k)] S) Q (al ((qUy q 54).call 73 [.ptr (some (d,0))]) S (qBg n) (as_ S (qAD EO .eql 3 (.tmp 7) qUz (qBg n) (qBg 0)) (.bool false) (as_ S (qAD EO .lss 3 (.tmp 3) qVA (qBg k) (qBg 1)) (.bool false) (as_ S (qAD EO .gtr 3 (.tmp 6) qN0 (qBg k) (qBg 64)) (.bool false) (as_ S (qAD EO .add 3 (.const (.int .i64 9)) (.tmp 9) (qBg 9) (qBg k)) (qNZ 9 k) (as_ S (qAD EO .eql 3 (.tmp 11) qUz (qNZ 9 k) (qBg 0)) (.bool false) (as_ S (qAD EO .lss 3 (.tmp 3) qVA (qBg k) (qBg 1)) (.bool false) (as_ S (qAD EO .gtr 3 (.tmp 6) qN0 (qBg k) (qBg 64)) (.bool false) (as_ S (qAD EO .add 3 (.const (.int .i64 9)) (.tmp 9) (qBg 9) (qBg k)) (qNZ 9 k) (al ((qUy q 52).call 73 [.ptr (some (d,0))]) S (qBg n) (as_ S (qAD EO .neq 3 (.tmp 15) (.tmp 17) (qNZ 9 k) (qBg n)) (.bool false) (aq (Q (.int .i64 (.ofNat 0),S)))))))))))))):=vq (by kernel_rfl)
end oo
namespace oo
open cd cd2 cd3 cd4 cd5 cd9
theorem EOok:Env.Ok Tryz.prog EO:=envEx_ok (xs:=[]) ⟨⟨Tryz.func58,Tryz.call58⟩,⟨Tryz.func53,Tryz.call53⟩,⟨Tryz.func120,Tryz.call120⟩,⟨Tryz.func110,Tryz.call110⟩,⟨Tryz.func50,Tryz.call50⟩,trivial⟩ trivial (by kernel_rfl)
section
variable {S:ASt} {x y:Operand} {a b:Nat}
theorem q1A:still S (qAD EO .lss 3 x y (.int .i64 (.ofNat a)) (.int .i64 (.ofNat b)))=some (.bool (decide (a<b)),S):=by
 have e:qAD EO .lss 3 x y (.int .i64 (.ofNat a)) (.int .i64 (.ofNat b))=some (.bool (ltF (.ofNat a) (.ofNat b))):=by kernel_rfl
 rw[qBN] at e;exact qAF e
theorem gtrO:still S (qAD EO .gtr 3 x y (.int .i64 (.ofNat a)) (.int .i64 (.ofNat b)))=some (.bool (decide (b<a)),S):=by
 have e:qAD EO .gtr 3 x y (.int .i64 (.ofNat a)) (.int .i64 (.ofNat b))=some (.bool (ltF (.ofNat b) (.ofNat a))):=by kernel_rfl
 rw[qBN] at e;exact qAF e
theorem qIP (a b:Nat):eqF (.ofNat a) (.ofNat b)=decide (a=b):=by
 rw[qCG];cases h:(Int.ofNat a == Int.ofNat b)
 ·have h2:=ne_of_beq_false h;exact (decide_eq_false fun e=>h2 (by rw[e])).symm
 ·exact (decide_eq_true (Int.ofNat.inj (eq_of_beq h))).symm
theorem eqlO:still S (qAD EO .eql 3 x y (.int .i64 (.ofNat a)) (.int .i64 (.ofNat b)))=some (.bool (decide (a=b)),S):=by
 have e:qAD EO .eql 3 x y (.int .i64 (.ofNat a)) (.int .i64 (.ofNat b))=some (.bool (eqF (.ofNat a) (.ofNat b))):=by kernel_rfl
 rw[qIP] at e;exact qAF e
theorem neqO:still S (qAD EO .neq 3 x y (.int .i64 (.ofNat a)) (.int .i64 (.ofNat b)))=some (.bool (!decide (a=b)),S):=by
 have e:qAD EO .neq 3 x y (.int .i64 (.ofNat a)) (.int .i64 (.ofNat b))=some (.bool (!eqF (.ofNat a) (.ofNat b))):=by kernel_rfl
 rw[qIP] at e;exact qAF e
theorem neqU:still S (qAD EO .neq 24 x y (.int .u64 (.ofNat a)) (.int .u64 (.ofNat b)))=some (.bool (!decide (a=b)),S):=by
 have e:qAD EO .neq 24 x y (.int .u64 (.ofNat a)) (.int .u64 (.ofNat b))=some (.bool (!eqF (.ofNat a) (.ofNat b))):=by kernel_rfl
 rw[qIP] at e;exact qAF e
theorem addO (h:a+b<1000000):still S (qAD EO .add 3 x y (.int .i64 (.ofNat a)) (.int .i64 (.ofNat b)))=some (.int .i64 (.ofNat (a+b)),S):=by
 have e:qAD EO .add 3 x y (.int .i64 (.ofNat a)) (.int .i64 (.ofNat b))=some (.int .i64 (qAH .i64 (.ofNat a+.ofNat b))):=by kernel_rfl
 rw[show (Int.ofNat a+Int.ofNat b)=Int.ofNat (a+b) from rfl,qBW (by omega)] at e;exact qAF e
theorem shrU (hk:b<64):still S (qAD EO .shr 24 x y (.int .u64 (.ofNat a)) (.int .i64 (.ofNat b)))=some (.int .u64 (.ofNat (a / 2 ^ b)),S):=by
 have e:qAD EO .shr 24 x y (.int .u64 (.ofNat a)) (.int .i64 (.ofNat b))=(match qFR .shr .u64 (.ofNat a) (.ofNat b) with | some r=>some (.int .u64 r) | none=>none):=by kernel_rfl
 have e2:qFR .shr .u64 (.ofNat a) (.ofNat b)=some (qCV (.ofNat a) b):=by
  show some (qCV (.ofNat a) (bif Nat.ble b 64 then b else 64))=_;rw[qEC (show b≤64 by omega)];rfl
 rw[e2] at e;exact qAF e
end
def qRl (s k:Nat):Bool:=decide (k<64) && !decide (s / 2 ^ k=0)
theorem qZ7 (S:ASt) (s k:Nat):qAE Tryz.prog 58 [.int .u64 (.ofNat s),.int .i64 (.ofNat k)] S (.bool (qRl s k),S):=by
 unfold qRl
 by_cases h:k<64
 ·rw[decide_eq_true h,Bool.true_and];exact qAE.of_tm EOok (qAG qAB) (Eq.mp (vcNa qAa s k (s / 2 ^ k) (!decide (s / 2 ^ k=0)) S (fun q=>q=(.bool (!decide (s / 2 ^ k=0)),S))) ⟨by rw[q1A,decide_eq_true h],shrU h,neqU,rfl⟩)
 ·rw[decide_eq_false h,Bool.false_and];exact qAE.of_tm EOok (qAG qAB) (Eq.mp (vcNb qAa s k 0 false S (fun q=>q=(.bool false,S))) ⟨by rw[q1A,decide_eq_false h],rfl⟩)
section
variable {S:ASt} {d:Nat} {las:List (List Nat)} {es:List dsk.En}
theorem qTt (hD:Dsk S d las es) {k:Nat} (hn:las.length=9+k) (h1:1≤k) (h2:k≤64):qAE Tryz.prog 53 [.ptr (some (d,0)),.int .i64 (.ofNat k)] S (.int .i64 (.ofNat 0),S) :=
 qAE.of_tm EOok (qAG (qCw (d:=d) (las:=las) (es:=es))) (Eq.mp (q1b (qIQ d las es) d las.length k S (fun q=>q=(.int .i64 (.ofNat 0),S))) ⟨ca (qF9 hD),by rw[eqlO,decide_eq_false (by omega)],by rw[q1A,decide_eq_false (by omega)],by rw[gtrO,decide_eq_false (by omega)],addO (by omega),by rw[eqlO,decide_eq_false (by omega)],
  by rw[q1A,decide_eq_false (by omega)],by rw[gtrO,decide_eq_false (by omega)],addO (by omega),ca (qF9 hD),by rw[neqO,decide_eq_true (by omega)];rfl,rfl⟩)
end
end oo
end Go.Proofs.YtiafochainjglaaGreatDoor.drp
