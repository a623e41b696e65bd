/-
  OWN WORK, A PART: an abstract machine for the program's text that the kernel can run, and the proof that it is sound: what it answers is what the program answers; contracts of functions by it. No condition.
-/
import Derived.Test.YtiafochainjglaaGreatDoorXtC
import Derived.Test.YtiafochainjglaaGreatDoorMtI
namespace Go.Proofs.YtiafochainjglaaGreatDoor.drp
open Go Go.Ax Go.Proofs
set_option linter.unusedVariables false
namespace atu
open oo cd cd2 cd3 cd4 cd5 cd9 pu atc
section
variable {S:ASt} {d k sp:Nat} {x x0 y y0:Nat→Nat} {c c0:Bool} {A M:AV}
theorem q1w (h:S.h.get sp=some (stO d k x0 c0 A M y)):Option.map (fun s=>(qAC,s)) (qAL EAu 29 (.ptr (some (sp,2))) (.agg (sL x c)) S)=some (.tuple [],S.put sp (stO d k x c A M y)) :=
 qAz (qDC (z:=7) (A:=[.ptr (some (d,0)),.int .i64 (.ofNat k)]) (B:=sL x0 c0) (C:=A::M::(rL y++[.int .i64 (.ofNat 0)])) (by kernel_rfl) rfl rfl rfl h)
theorem q1v (h:S.h.get sp=some (stO d k x c A M y0)):Option.map (fun s=>(qAC,s)) (qAL EAu 33 (.ptr (some (sp,11))) (.agg (rL y)) S)=some (.tuple [],S.put sp (stO d k x c A M y)) :=
 qAz (qDC (z:=19) (A:=.ptr (some (d,0))::.int .i64 (.ofNat k)::(sL x c++[A,M])) (B:=rL y0) (C:=[.int .i64 (.ofNat 0)]) (by kernel_rfl) rfl rfl rfl h)
end
section
variable {q q2:CallT} {H:List Nat→Nat→Nat} {X:List Nat→Nat} {S:ASt} {d k room:Nat} {las:List (List Nat)} {es:List dsk.En}
theorem qZR {kb:Nat} (hS:Sums q H) (hX:Shorts q2 X) (hD:Dsk S d las es) (hn:las.length=9+k) (h1:1≤k) (h2:k≤64) (hr1:1≤room) (hr2:room≤16) (e1:LSe H (nb las es)=0) (e2:LKe X (nb las es)=0) :
  ∃sp lp P Y,Pre S Y d k room (qCX H (nb las es) 4).1 sp lp (LSx H (nb las es)) (LKx X (nb las es)) (LSc H (nb las es)) P (qFI (qCX H (nb las es) 4).2 room 16) ∧
   ∀{Q:qz2},Trip Tryz.prog kb none (qAg 7 c25) (fA1 d k sp) Y Q→Trip Tryz.prog kb none c25 {m:=qAM [.ptr (some (d,0)),.int .i64 (.ofNat k),.int .i64 (.ofNat room)] 0 .e,n:=134,defs:=[]} S Q:=by
 have ht:=hD.tidy;obtain⟨l,m,ck,hdk⟩:=hD.ex;obtain⟨S1,f1⟩:∃Y,Y=S.add (stO d k (fun _=>0) false (.ptr none) (.ptr none) (fun _=>0)):=⟨_,rfl⟩;have n1:S1.next=S.next+1:=by rw[f1];rfl
 have t1:Tidy S1:=by rw[f1];exact ht.add
 have g1:S1.h.get S.next=some (stO d k (fun _=>0) false (.ptr none) (.ptr none) (fun _=>0)):=by rw[f1];exact qBM
 have k1:∀i,i<S.next→S1.h.get i=S.h.get i:=fun i hi=>by rw[f1,qAj (by omega)]
 have D1:Dsk S1 d las es:=⟨⟨l,m,ck,hdk.keep ht k1⟩,t1,hD.few,hD.byt⟩;obtain⟨S2,f2⟩:∃Y,Y=S1.put S.next (stO d k (LSx H (nb las es)) (LSc H (nb las es)) (.ptr none) (.ptr none) (fun _=>0)):=⟨_,rfl⟩;have n2:S2.next=S.next+1:=by rw[f2];exact n1
 have t2:Tidy S2:=by rw[f2];exact t1.put (by omega)
 have g2:S2.h.get S.next=some (stO d k (LSx H (nb las es)) (LSc H (nb las es)) (.ptr none) (.ptr none) (fun _=>0)):=by rw[f2];exact qAl
 have k2:∀i,i<S.next→S2.h.get i=S.h.get i:=fun i hi=>by rw[f2,qA3 (by omega),k1 i hi]
 have D2:Dsk S2 d las es:=⟨⟨l,m,ck,hdk.keep ht k2⟩,t2,hD.few,hD.byt⟩;obtain⟨S3,f3⟩:∃Y,Y=S2.put S.next (stO d k (LSx H (nb las es)) (LSc H (nb las es)) (.ptr none) (.ptr none) (LKx X (nb las es))):=⟨_,rfl⟩;have n3:S3.next=S.next+1:=by rw[f3];exact n2
 have t3:Tidy S3:=by rw[f3];exact t2.put (by omega)
 have g3:S3.h.get S.next=some (stO d k (LSx H (nb las es)) (LSc H (nb las es)) (.ptr none) (.ptr none) (LKx X (nb las es))):=by rw[f3];exact qAl
 have k3:∀i,i<S.next→S3.h.get i=S.h.get i:=fun i hi=>by rw[f3,qA3 (by omega),k2 i hi]
 have D3:Dsk S3 d las es:=⟨⟨l,m,ck,hdk.keep ht k3⟩,t3,hD.few,hD.byt⟩;obtain⟨P,S4,w4,I4⟩:=qW5 hS D3 hn h1 h2 hr1 hr2;have g4:S4.h.get S.next=some (stO d k (LSx H (nb las es)) (LSc H (nb las es)) (.ptr none) (.ptr none) (LKx X (nb las es))):=(I4.old _ (by omega)).trans g3;have w54:=qQd hS D1 (show 2≤las.length by omega);have w55:=qYt hX D2 (show 4≤las.length by omega) (by omega);rw[e1] at w54;rw[e2] at w55;have hok:=orC_ok (qAJ (qWF hD hn h1 h2)) (orC_ok (qAJ w54) (orC_ok (qAJ w55) (qAJ w4)));refine⟨S.next,S3.next,P,S4.put S.next (stO d k (LSx H (nb las es)) (LSc H (nb las es)) (.ptr (some (S3.next,0))) (.ptr none) (LKx X (nb las es))),⟨qAl,?_,?_,Nat.le_refl _,by omega,I4.tidy.put (I4.tidy.lt g4),?_,fun i hi=>?_⟩,fun {Q} h=>?_⟩
 ·rw[qA3 (by omega)];exact I4.log
 ·have hh:qD9 S.next S4 P (qFI (qCX H (nb las es) 4).2 room 16):=by
   rcases I4.hot with q | ⟨r,q0,q1,q2,q3⟩
   ·exact .inl q
   ·exact .inr ⟨r,q0,q1,by omega,q3⟩
  refine qG3 hh fun p hp=>?_;obtain⟨q1,_,q3⟩:=qDy hh p hp;have q1':=q1;rw[q3] at q1';rw[qA3 (qAu q1' g4 qLr)];exact q1
 ·have:=I4.next;show S.next≤S4.next;have:S3.next≤S4.next:=this;omega
 ·rw[qA3 (by omega)];exact (I4.old i (by omega)).trans (k3 i hi)
 ·refine Trip.preR qBn (qAG hok) (k:=7) (kf:=[0,1,9]) (by kernel_rfl) (Q1:=fun z=>z=(.normal,fA1 d k S.next,S4.put S.next (stO d k (LSx H (nb las es)) (LSc H (nb las es)) (.ptr (some (S3.next,0))) (.ptr none) (LKx X (nb las es))))) (Eq.mp (vcAa _ d k room S.next S3.next (LKq X (nb las es)) (LSx H (nb las es)) (LKx X (nb las es)) (LSc H (nb las es)) S S1 S2 S3 S4 (S4.put S.next (stO d k (LSx H (nb las es)) (LSc H (nb las es)) (.ptr (some (S3.next,0))) (.ptr none) (LKx X (nb las es)))) (fun z=>z=(.normal,fA1 d k S.next,S4.put S.next (stO d k (LSx H (nb las es)) (LSc H (nb las es)) (.ptr (some (S3.next,0))) (.ptr none) (LKx X (nb las es))))))
   ⟨ca (qAo qA6),lF hr1,gF hr2,by rw[f1];rfl,ca (qAW (qDG (by decide)) (qAo qA6)),by rw[f2];exact q1w g1,ca (qAW (qDG (by decide)) (qAW (qDG (by decide)) (qAo qA6))),by rw[f3];exact q1v g2,ca (qAW (qDG (by decide)) (qAW (qDG (by decide)) (qAW (qDG (by decide)) qA6))),q1y g4 rfl,rfl⟩) ?_ (fun z h1 h2=>absurd (congrArg (·.1) h2) h1)
  rintro F Y hY;cases hY;exact h
end
section
variable {q q2:CallT} {H:List Nat→Nat→Nat} {X:List Nat→Nat} {base d l m cc k room:Nat} {S0 S:ASt} {las:List (List Nat)} {es:List dsk.En}
def qU8 (H:List Nat→Nat→Nat) (b:Nat→List Nat) (k:Nat):Nat:=if mkM H b k=true then mX H (b 4) else 2 ^ k - 1
theorem qWO {H:List Nat→Nat→Nat} {b:Nat→List Nat} {k:Nat} (h2:k≤64) (hse:mX H (b 4)<18446744073709551616):qU8 H b k<18446744073709551616:=by
 unfold qU8
 split
 ·exact hse
 ·have h:2 ^ k≤18446744073709551616:=Nat.pow_le_pow_right (n:=2) (by decide) h2;have hp:=Nat.two_pow_pos k;omega
end
end atu
end Go.Proofs.YtiafochainjglaaGreatDoor.drp
