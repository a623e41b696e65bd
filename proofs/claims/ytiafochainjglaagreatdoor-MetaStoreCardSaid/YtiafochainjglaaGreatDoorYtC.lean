/-
  OWN WORK, A PART: an abstract machine for the program's text that the kernel can run, and the proof that it is sound: what it answers is what the program answers; contracts of functions by it. No condition.
-/
import Derived.Test.YtiafochainjglaaGreatDoorYtB
import Derived.Test.YtiafochainjglaaGreatDoorNtD
namespace Go.Proofs.YtiafochainjglaaGreatDoor.drp
open Go Go.Ax Go.Proofs
set_option linter.unusedVariables false
namespace stv
open oo cd cd2 cd3 cd4 cd5 cd9 pu atc atu
structure Lv (H:List Nat→Nat→Nat) (XX:List Nat→Nat) (base:Nat) (S0 S X:ASt) (d l m k room sp lp mp:Nat) (x y:Nat→Nat) (c:Bool) (P:AV) (L:List Nat) (s nu:Nat) (las:List (List Nat)) (cc t:Nat):Prop where
 at_:AtS S X d k room nu sp lp mp x y c P L s
 dv:Dv base S0 X d l m (9+k) cc las []
 ag:Agr H XX (nb las []) k x y c s nu L t
 hl:HotL room L
 cb:cc≤20*t+200
 xb:∀i,x i<18446744073709551616
structure Cx (base:Nat) (S:ASt) (d l m k room:Nat):Prop where
 hb:base≤S.next
 hd:d<S.next
 hl:l<S.next
 hm:m<S.next
 k1:1≤k
 k2:k≤64
 r1:1≤room
 r2:room≤16
def LvE (H:List Nat→Nat→Nat) (XX:List Nat→Nat) (base:Nat) (S0 S:ASt) (d l m k room sp lp mp:Nat) (X:ASt) (t:Nat):Prop:=∃x y c P L s nu las cc,Lv H XX base S0 S X d l m k room sp lp mp x y c P L s nu las cc t
section
variable {q q2:CallT} {H:List Nat→Nat→Nat} {XX:List Nat→Nat} {base d l m k room nu sp lp mp s cc t:Nat} {S0 S X X':ASt} {las:List (List Nat)} {x y:Nat→Nat} {c:Bool} {P:AV} {L:List Nat}
theorem Lv.grow (h:Lv H XX base S0 S X d l m k room sp lp mp x y c P L s nu las cc t) (hn:X.next≤X'.next) (ht:Tidy X') (hk:∀i,i<X.next→X'.h.get i=X.h.get i):Lv H XX base S0 S X' d l m k room sp lp mp x y c P L s nu las cc t :=
 ⟨h.at_.keep (fun i _ hi=>hk i hi) ht (Nat.le_trans h.at_.next hn),h.dv.keep hn ht hk,h.ag,h.hl,h.cb,h.xb⟩
theorem Lv.le {t':Nat} (h:Lv H XX base S0 S X d l m k room sp lp mp x y c P L s nu las cc t) (ht:t≤t'):Lv H XX base S0 S X d l m k room sp lp mp x y c P L s nu las cc t':=⟨h.at_,h.dv,h.ag.le ht,h.hl,by have:=h.cb;omega,h.xb⟩
theorem s64 (h:Lv H XX base S0 S X d l m k room sp lp mp x y c P L s nu las cc t) (hk:k≤64):s<18446744073709551616:=Nat.lt_of_lt_of_le h.ag.fit (Nat.pow_le_pow_right (n:=2) (by decide) hk)
theorem qWn (hS:Sums q H) (C:Cx base S d l m k room) (h:Lv H XX base S0 S X d l m k room sp lp mp x y c P L s nu las cc t) (ht:t<1000) :
  ∃X' las',qAE Tryz.prog 36 [.ptr (some (sp,0))] X (.int .i64 (.ofNat 0),X')∧Lv H XX base S0 S X' d l m k room sp lp mp x y c P L s nu las' (cc+1) (t+1):=by
 have hcb:=h.cb;have los:=h.at_.los;obtain⟨c1,c2,c3,c4,c5,c6,c7,c8⟩:=C;obtain⟨X',las',w,hv,n1,k1,b1⟩:=qPi hS h.dv (by omega) (by omega) h.at_.st h.at_.mg (s64 h c6) c5 ⟨by omega,by omega⟩;exact⟨X',las',w,h.at_.keep (fun i h1 h2=>k1 i h2 (by omega) (by omega)) hv.tidy (by have:=h.at_.next;omega),hv,(h.ag.map h.ag.fit c6 (by rw[b1 4 (by omega),if_pos rfl]) (fun i hi hne=>by rw[b1 i (by omega),if_neg hne])).le (Nat.le_succ _),h.hl,by omega,h.xb⟩
theorem AtS.sup {x':Nat→Nat} {c':Bool} (h:AtS S X d k room nu sp lp mp x y c P L s):AtS S (X.put sp (stO d k x' c' (.ptr (some (lp,0))) (.ptr (some (mp,0))) y)) d k room nu sp lp mp x' y c' P L s:=by
 obtain⟨n1,n2,n3⟩:=AtS.ne h;exact⟨qAl,by rw[qA3 (Ne.symm n3)];exact h.lg,by rw[qA3 (Ne.symm n1)];exact h.mg,qG3 h.hot fun p hp=>by rw[qA3 (h.row_ne p hp).1];exact (qDy h.hot p hp).1,h.los,h.lol,h.lom,h.tidy.put (h.tidy.lt h.st),h.next⟩
theorem AtS.tab {y':Nat→Nat} (h:AtS S X d k room nu sp lp mp x y c P L s):AtS S (X.put sp (stO d k x c (.ptr (some (lp,0))) (.ptr (some (mp,0))) y')) d k room nu sp lp mp x y' c P L s:=by
 obtain⟨n1,n2,n3⟩:=AtS.ne h;exact⟨qAl,by rw[qA3 (Ne.symm n3)];exact h.lg,by rw[qA3 (Ne.symm n1)];exact h.mg,qG3 h.hot fun p hp=>by rw[qA3 (h.row_ne p hp).1];exact (qDy h.hot p hp).1,h.los,h.lol,h.lom,h.tidy.put (h.tidy.lt h.st),h.next⟩
theorem qQ4 {s':Int} {c':Bool} {x':Nat→Nat} (hS:Sums q H) (C:Cx base S d l m k room) (h:Lv H XX base S0 S X d l m k room sp lp mp x y c P L s nu las cc t) (ht:t<1000) (hs:qZA s' (x' 1) (x' 2)=false) :
  ∃X',qAE Tryz.prog 33 [.ptr (some (sp,0)),.agg (sG s' c' x')] X (.int .i64 (.ofNat 2),X')∧Lv H XX base S0 S X' d l m k room sp lp mp x y c P L s nu las cc t:=by
 have hcb:=h.cb;obtain⟨c1,c2,c3,c4,c5,c6,c7,c8⟩:=C;obtain⟨S1,e1⟩:∃Y,Y=X.add (.cells (sG s' c' x') true):=⟨_,rfl⟩;have n1:S1.next=X.next+1:=by rw[e1];rfl
 have t1:Tidy S1:=by rw[e1];exact h.at_.tidy.add
 have k1:∀i,i<X.next→S1.h.get i=X.h.get i:=fun i hi=>by rw[e1,qAj (by omega)]
 have g1:S1.h.get X.next=some (.cells (sG s' c' x') true):=by rw[e1];exact qBM
 obtain⟨Y,eY⟩:∃Y,Y=ASt.mk S1.h (S1.next+12):=⟨_,rfl⟩;have nY:Y.next=S1.next+12:=by rw[eY]
 have kY:∀i,Y.h.get i=S1.h.get i:=fun i=>by rw[eY]
 have tY:Tidy Y:=by rw[eY];exact t1.mk (Nat.le_add_right _ _)
 have hY:=h.grow (X':=Y) (by omega) tY (fun i hi=>by rw[kY,k1 i hi]);have w2:=qYy (s:=s') (c:=c') (x:=x') hS (hY.dv.dsk (by omega)) (by rw[hY.dv.len];omega) hs;obtain⟨S3,e3⟩:∃Z,Z=(ASt.put Y (S1.next+9) (.cells (sL (fun _=>0) false) true)).put (S1.next+9) (.cells (sL (fun _=>0) false) true):=⟨_,rfl⟩;have k3:∀i,i<X.next→S3.h.get i=X.h.get i:=fun i hi=>by rw[e3,qA3 (by omega),qA3 (by omega),kY,k1 i hi]
 have t3:Tidy S3:=by rw[e3];exact (tY.put (by omega)).put (by show _<Y.next;omega)
 have n3:S3.next=Y.next:=by rw[e3];rfl
 have h3:=h.grow (X':=S3) (by omega) t3 k3;have hfree:T.get Y.h (S1.next+9)=none:=by rw[eY];exact t1 _ (by omega)
 have hst1:S1.h.get sp=some (stO d k x c (.ptr (some (lp,0))) (.ptr (some (mp,0))) y):=(k1 sp (h.at_.tidy.lt h.at_.st)).trans h.at_.st;have hok:=orC_ok (qAJ (qDr (z:=.negSucc 0) hst1 (by omega))) (orC_ok (qAJ w2) (qAJ (qFX (S:=S3) (sp:=sp) (e:=2) (by decide) (by decide))));refine⟨S3,?_,h3⟩;subst eY;exact qR5 Tryz.f33 c33 31 4 2 (qAG hok) (Eq.mp (vcSa _ d sp X.next s' c' false x' (fun _=>0) X S1 (ASt.mk S1.h (S1.next+12)) S3 (fun z=>z=(.ret,xFr [(4,.int .i64 (.ofNat 2))] 31,S3)))
  ⟨by rw[e1];rfl,ca oL,nF rfl,vd (S:=ASt.mk S1.h (S1.next+12)) hst1,qAp (z:=7) (by kernel_rfl) (show (ASt.mk S1.h (S1.next+12)).h.get X.next=_ from g1) (by kernel_rfl),ca (oR oL),by rw[e3];exact qAz (qCJ (B:=sL (fun _=>0) false) (by kernel_rfl) rfl rfl qAl),⟨⟨hfree,trivial⟩,⟨trivial,trivial⟩,trivial⟩,trivial,eF (by decide),ca (oR (oR qA6)),rfl⟩)
theorem qUu {c':Bool} {x':Nat→Nat} (hS:Sums q H) (C:Cx base S d l m k room) (h:Lv H XX base S0 S X d l m k room sp lp mp x y c P L s nu las cc t) (ht:t<1000) (hs:qDa (x' 0) (x' 1) (x' 2)=true) (hx:∀i,x' i<18446744073709551616) :
  ∃X' x'' las',qAE Tryz.prog 33 [.ptr (some (sp,0)),.agg (sL x' c')] X (.int .i64 (.ofNat 0),X')∧Lv H XX base S0 S X' d l m k room sp lp mp x'' y c' P L s nu las' (cc+1) (t+1):=by
 have hcb:=h.cb;have los:=h.at_.los;obtain⟨c1,c2,c3,c4,c5,c6,c7,c8⟩:=C;obtain⟨S1,e1⟩:∃Y,Y=X.add (.cells (sL x' c') true):=⟨_,rfl⟩;have n1:S1.next=X.next+1:=by rw[e1];rfl
 have t1:Tidy S1:=by rw[e1];exact h.at_.tidy.add
 have k1:∀i,i<X.next→S1.h.get i=X.h.get i:=fun i hi=>by rw[e1,qAj (by omega)]
 have g1:S1.h.get X.next=some (.cells (sL x' c') true):=by rw[e1];exact qBM
 obtain⟨Y,eY⟩:∃Y,Y=ASt.mk S1.h (S1.next+12):=⟨_,rfl⟩;have nY:Y.next=S1.next+12:=by rw[eY]
 have kY:∀i,Y.h.get i=S1.h.get i:=fun i=>by rw[eY]
 have tY:Tidy Y:=by rw[eY];exact t1.mk (Nat.le_add_right _ _)
 have hY:=h.grow (X':=Y) (by omega) tY (fun i hi=>by rw[kY,k1 i hi]);have hb1:=h.ag.b1
 -- the two slots
 obtain⟨S2,las2,v,w2,hv2,n2,k2,hag⟩:∃S2 las2 v,qAE Tryz.prog 87 [.ptr (some (d,0)),.agg (sL x' c')] Y (.tuple [.agg (sL (upd x' 5 (v+1)) c'),.int .i64 (.ofNat 0)],S2)∧Dv base S0 S2 d l m (9+k) (cc+1) las2 []∧Y.next≤S2.next∧(∀i,i<Y.next→i≠l→i≠m→S2.h.get i=Y.h.get i)∧v≤t∧Agr H XX (nb las2 []) k (upd x' 5 (v+1)) y c' s nu L (t+1):=by
  have hU:∀v,v≤t→U6 (upd x' 5 (v+1) 0) (upd x' 5 (v+1) 1) (upd x' 5 (v+1) 2) (upd x' 5 (v+1) 3) (upd x' 5 (v+1) 4) (upd x' 5 (v+1) 5):=fun v hv=>by
   have hsm:=hs;unfold qDa at hsm;simp only[Bool.and_eq_true,decide_eq_true_eq] at hsm;exact⟨show x' 0<_ by omega,hx 1,hx 2,hx 3,hx 4,show v+1<_ by omega⟩
  have hU2:∀v,v≤t→U6 (x' 0) (x' 1) (x' 2) (x' 3) (x' 4) (v+1):=hU;rcases qWd h.ag.e1 with⟨hn,_⟩ | ⟨hn,_⟩
  ·have hv5:sX H (nb las [] 0) 5≤t:=by rw[←qSR hn];exact hb1
   obtain⟨S2,las2,g1,g2,g3,g4,g5⟩:=qSn hS hY.dv (by omega) (by omega) hn (by omega) (hU2 _ hv5) hs (x:=x') (c:=c');exact⟨S2,las2,_,g1,g2,g3,g4,hv5,h.ag.sup (hU _ hv5) hs (by rw[qSR hn];rfl) (.inl ⟨hn,by rw[g5 0 (by omega),if_neg (by decide)],by rw[g5 1 (by omega),if_pos rfl]⟩) (fun i h1 h2=>by rw[g5 i (by omega),if_neg (by omega)])⟩
  ·have hv5:sX H (nb las [] 1) 5≤t:=by rw[←qUS hn];exact hb1
   obtain⟨S2,las2,g1,g2,g3,g4,g5⟩:=qSm hS hY.dv (by omega) (by omega) hn (by omega) (hU2 _ hv5) hs (x:=x') (c:=c');exact⟨S2,las2,_,g1,g2,g3,g4,hv5,h.ag.sup (hU _ hv5) hs (by rw[qUS hn];rfl) (.inr ⟨hn,by rw[g5 0 (by omega),if_pos rfl],by rw[g5 1 (by omega),if_neg (by decide)]⟩) (fun i h1 h2=>by rw[g5 i (by omega),if_neg (by omega)])⟩
 obtain⟨hvt,hag⟩:=hag;have hlY:∀i,S.next≤i→i<Y.next→S2.h.get i=Y.h.get i:=fun i h1 h2=>k2 i h2 (by omega) (by omega);obtain⟨S3,e3⟩:∃Z,Z=(ASt.put S2 (S1.next+9) (.cells (sL (fun _=>0) false) true)).put (S1.next+9) (.cells (sL (upd x' 5 (v+1)) c') true):=⟨_,rfl⟩;have hXS:=h.at_.next;have k3:∀i,i<X.next→S3.h.get i=S2.h.get i:=fun i hi=>by rw[e3,qA3 (by omega),qA3 (by omega)]
 have t3:Tidy S3:=by rw[e3];exact (hv2.tidy.put (by omega)).put (by show _<S2.next;omega)
 have n3:S3.next=S2.next:=by rw[e3];rfl
 have A3:AtS S S3 d k room nu sp lp mp x y c P L s:=h.at_.keep (fun i h1 h2=>by rw[k3 i h2,hlY i h1 (by omega),kY,k1 i h2]) t3 (by omega);have D3:=Dv.keep0 hv2 (X':=S3) (k3 d (by omega)) (k3 l (by omega)) (k3 m (by omega)) (fun i hi=>k3 i (by omega)) t3 (by have:=hv2.next;omega);have A4:=AtS.sup (x':=upd x' 5 (v+1)) (c':=c') A3;obtain⟨S4,e4⟩:∃Z,Z=S3.put sp (stO d k (upd x' 5 (v+1)) c' (.ptr (some (lp,0))) (.ptr (some (mp,0))) y):=⟨_,rfl⟩;rw[←e4] at A4;have k4:∀i,i<S.next→S4.h.get i=S3.h.get i:=fun i hi=>by rw[e4,qA3 (by omega)]
 have D4:=Dv.keep0 D3 (X':=S4) (k4 d c2) (k4 l c3) (k4 m c4) (fun i hi=>k4 i (by omega)) A4.tidy (by have:=D3.next;rw[e4];exact this);have hfree:T.get S2.h (S1.next+9)=none:=by
  have:=k2 (S1.next+9) (by omega) (by omega) (by omega);rw[this,kY];exact t1 _ (by omega)
 have hst1:S1.h.get sp=some (stO d k x c (.ptr (some (lp,0))) (.ptr (some (mp,0))) y):=(k1 sp (h.at_.tidy.lt h.at_.st)).trans h.at_.st;have g3:S3.h.get (S1.next+9)=some (.cells (sL (upd x' 5 (v+1)) c') true):=by rw[e3];exact qAl
 have hok:=orC_ok (qAJ (qDr (z:=.negSucc 0) hst1 (by omega))) (orC_ok (qAJ w2) (qAJ (qFX (S:=S4) (sp:=sp) (e:=0) (by decide) (by decide))));refine⟨S4,upd x' 5 (v+1),las2,?_,A4,D4,hag,h.hl,by omega,fun i=>?_⟩
 ·subst eY;exact qR5 Tryz.f33 c33 31 4 0 (qAG hok) (Eq.mp (vcSb _ d sp X.next c' x' (upd x' 5 (v+1)) X S1 S2 S3 S4 (fun z=>z=(.ret,xFr [(4,.int .i64 (.ofNat 0))] 31,S4)))
   ⟨by rw[e1];rfl,ca oL,nF rfl,vd (S:=ASt.mk S1.h (S1.next+12)) hst1,qAp (z:=7) (by kernel_rfl) (show (ASt.mk S1.h (S1.next+12)).h.get X.next=_ from g1) (by kernel_rfl),ca (oR oL),by rw[e3];exact qAz (qCJ (B:=sL (fun _=>0) false) (by kernel_rfl) rfl rfl qAl),⟨⟨hfree,trivial⟩,⟨trivial,trivial⟩,trivial⟩,trivial,eT rfl,qAp (z:=7) (by kernel_rfl) g3 (by kernel_rfl),by rw[e4];exact vss A3.st,ca (oR (oR qA6)),rfl⟩)
 ·show (bif Nat.beq i 5 then v+1 else x' i)<_;cases Nat.beq i 5
  ·exact hx i
  ·show v+1<_;omega
end
section
variable {q q2:CallT} {H:List Nat→Nat→Nat} {XX:List Nat→Nat} {base d l m k room nu sp lp mp s cc t:Nat} {S0 S X X':ASt} {las:List (List Nat)} {x y:Nat→Nat} {c:Bool} {P:AV} {L:List Nat}
theorem qQ6 {vs:List AV} {o:Nat} (h:Lv H XX base S0 S X d l m k room sp lp mp x y c P L s nu las cc t):∃S1,S1=X.add (.cells vs true)∧S1.next=X.next+1∧(∀i,i<X.next→S1.h.get i=X.h.get i)∧Tidy S1∧S1.h.get X.next=some (.cells vs true)∧Lv H XX base S0 S (ASt.mk S1.h (S1.next+o)) d l m k room sp lp mp x y c P L s nu las cc t∧S1.h.get sp=some (stO d k x c (.ptr (some (lp,0))) (.ptr (some (mp,0))) y):=by
 have hs:=h.at_.tidy.lt h.at_.st;refine⟨_,rfl,rfl,fun i hi=>qAj (by omega),h.at_.tidy.add,qBM,h.grow (show X.next≤X.next+1+o by omega) (h.at_.tidy.add.mk (Nat.le_add_right _ _)) (fun i hi=>qAj (by omega)),?_⟩;rw[qAj (by omega)];exact h.at_.st
theorem qVw {Z:Nat→Int} (hZ:∀i,i<17→∃w:Nat,Z i=.ofNat w∧w<18446744073709551616) (hr:cd6.qNO (cd6.tL Z)=true) :
  ∃y:Nat→Nat,cd6.tL Z=rL y∧(∀i,y i<18446744073709551616)∧y 17<256∧y 18<256∧qLu (y 0) (y 17) (y 18) (fun i=>y (i+1))=true:=by
 obtain⟨⟨a17,z17,b17⟩,a18,z18,b18⟩:=qZd hr;obtain⟨y,ey⟩:∃y:Nat→Nat,y=fun i=>if i<19 then (Z i).toNat else 0:=⟨_,rfl⟩;have hZy:∀i,i<19→Z i=.ofNat (y i)∧y i<18446744073709551616:=fun i hi=>by
  rw[ey];simp only[hi,if_true];rcases Nat.lt_or_ge i 17 with h | h
  ·obtain⟨w,e,hw⟩:=hZ i h;rw[e];exact⟨rfl,hw⟩
  ·rcases Nat.lt_or_ge i 18 with h' | h'
   ·obtain rfl:i=17:=by omega
    rw[z17];exact⟨rfl,Nat.lt_trans b17 (by decide)⟩
   ·obtain rfl:i=18:=by omega
    rw[z18];exact⟨rfl,Nat.lt_trans b18 (by decide)⟩
 have etL:cd6.tL Z=rL y:=qYx fun i hi=>(hZy i hi).1;refine⟨y,etL,fun i=>?_,?_,?_,?_⟩
 ·rcases Nat.lt_or_ge i 19 with h | h
  ·exact (hZy i h).2
  ·rw[ey];simp only[show ¬i<19 by omega,if_false];decide
 ·have:=(hZy 17 (by decide)).1;rw[z17] at this;injection this with h;omega
 ·have:=(hZy 18 (by decide)).1;rw[z18] at this;injection this with h;omega
 ·unfold qLu;rw[q1P,←etL];exact hr
theorem qZf {Z:Nat→Int} (hX:Shorts q XX) (C:Cx base S d l m k room) (h:Lv H XX base S0 S X d l m k room sp lp mp x y c P L s nu las cc t) (ht:t<1000) (hZ:∀i,i<17→∃w:Nat,Z i=.ofNat w∧w<18446744073709551616) :
  ∃e X' y' las',qAE Tryz.prog 37 [.ptr (some (sp,0)),.agg (cd6.tL Z)] X (.int .i64 (.ofNat e),X')∧Lv H XX base S0 S X' d l m k room sp lp mp x y' c P L s nu las' (cc+1) (t+1):=by
 have hcb:=h.cb;have los:=h.at_.los;obtain⟨c1,c2,c3,c4,c5,c6,c7,c8⟩:=C;have hXS:=h.at_.next;cases hr:cd6.qNO (cd6.tL Z)
 ·obtain⟨S1,e1,n1,k1,t1,g1,hY,hst1⟩:=qQ6 (vs:=cd6.tL Z) (o:=11) h;have w2:=qYu (Z:=Z) hX (hY.dv.dsk (by omega)) (by rw[hY.dv.len];omega) (by rw[hY.dv.len];omega) hr;have hok:=orC_ok (qAJ (qDr (z:=.negSucc 0) hst1 (by omega))) (orC_ok (qAJ w2) (qAJ (qFX (S:=ASt.mk S1.h (S1.next+11)) (sp:=sp) (e:=2) (by decide) (by decide))));refine⟨2,ASt.mk S1.h (S1.next+11),y,las,?_,⟨hY.at_,hY.dv.mono (Nat.le_succ _),hY.ag.le (Nat.le_succ _),hY.hl,by omega,hY.xb⟩⟩;exact qR5 Tryz.f37 c37 31 4 2 (qAG hok) (Eq.mp (q1S _ d sp X.next Z X S1 (ASt.mk S1.h (S1.next+11)) (fun z=>z=(.ret,xFr [(4,.int .i64 (.ofNat 2))] 31,ASt.mk S1.h (S1.next+11))))
   ⟨by rw[e1];rfl,ca oL,nF rfl,vd (S:=ASt.mk S1.h (S1.next+11)) hst1,qAp (z:=19) (by kernel_rfl) (show (ASt.mk S1.h (S1.next+11)).h.get X.next=_ from g1) (by kernel_rfl),ca (oR oL),trivial,eF (by decide),ca (oR (oR qA6)),rfl⟩)
 ·have hm:=fun S=>(qPa Z S).1;rw[hr] at hm;obtain⟨y',ey,hy,y17,y18,hrm⟩:=qVw hZ hr;rw[ey] at hm ⊢;obtain⟨S1,e1,n1,k1,t1,g1,hY,hst1⟩:=qQ6 (vs:=rL y') (o:=11) h;obtain⟨Y,eY⟩:∃Y,Y=ASt.mk S1.h (S1.next+11):=⟨_,rfl⟩;have nY:Y.next=S1.next+11:=by rw[eY]
  have kY:∀i,Y.h.get i=S1.h.get i:=fun i=>by rw[eY]
  rw[←eY] at hY;have hb2:=h.ag.b2;obtain⟨S2,las2,v,w2,hv2,n2,k2,hag⟩:∃S2 las2 v,qAE Tryz.prog 91 [.ptr (some (d,0)),.int .i64 (.ofNat 2),.agg (rL y')] Y (.tuple [.int .u64 (.ofNat v),.int .i64 (.ofNat 0)],S2)∧Dv base S0 S2 d l m (9+k) (cc+1) las2 []∧Y.next≤S2.next∧(∀i,i<Y.next→i≠l→i≠m→S2.h.get i=Y.h.get i)∧Agr H XX (nb las2 []) k x y' c s nu L (t+1):=by
   rcases qWe h.ag.e2 with⟨hn,_⟩ | ⟨hn,_⟩
   ·have hv5:rQ XX (nb las [] 2)≤t:=by rw[←qSS hn];exact hb2
    obtain⟨S2,las2,g1,g2,g3,g4,g5⟩:=qSk (y:=y') hX hY.dv (by omega) (by omega) (by omega) hn (by omega) hy y17 y18 hrm hm;exact⟨S2,las2,_,g1,g2,g3,g4,h.ag.tab (by omega) (fun i _=>hy i) y17 y18 hrm (.inl ⟨hn,by rw[g5 2 (by omega),if_neg (by decide)],by rw[g5 3 (by omega),if_pos rfl,qSS hn]⟩) (fun i h1 h2 h3=>by rw[g5 i (by omega),if_neg (by omega)])⟩
   ·have hv5:rQ XX (nb las [] 3)≤t:=by rw[←qUT hn];exact hb2
    obtain⟨S2,las2,g1,g2,g3,g4,g5⟩:=qSj (y:=y') hX hY.dv (by omega) (by omega) (by omega) hn (by omega) hy y17 y18 hrm hm;exact⟨S2,las2,_,g1,g2,g3,g4,h.ag.tab (by omega) (fun i _=>hy i) y17 y18 hrm (.inr ⟨hn,by rw[g5 2 (by omega),if_pos rfl,qUT hn],by rw[g5 3 (by omega),if_neg (by decide)]⟩) (fun i h1 h2 h3=>by rw[g5 i (by omega),if_neg (by omega)])⟩
  have A2:=hY.at_.keep (X':=S2) (fun i h1 h2=>k2 i h2 (by omega) (by omega)) hv2.tidy (by omega);have A3:=AtS.tab (y':=y') A2;obtain⟨S3,e3⟩:∃Z,Z=S2.put sp (stO d k x c (.ptr (some (lp,0))) (.ptr (some (mp,0))) y'):=⟨_,rfl⟩;rw[←e3] at A3;have k3:∀i,i<S.next→S3.h.get i=S2.h.get i:=fun i hi=>by rw[e3,qA3 (by omega)]
  have D3:=Dv.keep0 hv2 (X':=S3) (k3 d c2) (k3 l c3) (k3 m c4) (fun i hi=>k3 i (by omega)) A3.tidy (by have:=hv2.next;rw[e3];exact this);have g2:S2.h.get X.next=some (.cells (rL y') true):=by rw[k2 X.next (by omega) (by omega) (by omega),kY];exact g1
  have hok:=orC_ok (qAJ (qDr (z:=.negSucc 0) hst1 (by omega))) (orC_ok (qAJ w2) (qAJ (qFX (S:=S3) (sp:=sp) (e:=0) (by decide) (by decide))));refine⟨0,S3,y',las2,?_,⟨A3,D3,hag,h.hl,by omega,h.xb⟩⟩;subst eY;exact qR5 Tryz.f37 c37 31 4 0 (qAG hok) (Eq.mp (vcTb _ d sp X.next v y' X S1 S2 S3 (fun z=>z=(.ret,xFr [(4,.int .i64 (.ofNat 0))] 31,S3)))
   ⟨by rw[e1];rfl,ca oL,nF rfl,vd (S:=ASt.mk S1.h (S1.next+11)) hst1,qAp (z:=19) (by kernel_rfl) (show (ASt.mk S1.h (S1.next+11)).h.get X.next=_ from g1) (by kernel_rfl),ca (oR oL),trivial,eT rfl,qAp (z:=19) (by kernel_rfl) g2 (by kernel_rfl),by rw[e3];exact vst A2.st,ca (oR (oR qA6)),rfl⟩)
theorem qTY (hS:Sums q H) (C:Cx base S d l m k room) (h:Lv H XX base S0 S X d l m k room sp lp mp x y c P L s nu las cc t) (ht:t<1000) :
  ∃X' P' L' nu' las',qAE Tryz.prog 92 [.ptr (some (lp,0))] X (.int .i64 (.ofNat 0),X')∧Lv H XX base S0 S X' d l m k room sp lp mp x y c P' L' s nu' las' (cc+1) (t+1):=by
 have hcb:=h.cb;have hb3:=h.ag.b3;have los:=h.at_.los;have lol:=h.at_.lol;have lom:=h.at_.lom;have hXS:=h.at_.next;obtain⟨n1,n2,n3⟩:=AtS.ne h.at_;obtain⟨c1,c2,c3,c4,c5,c6,c7,c8⟩:=C
 by_cases hL:L.length=0
 ·refine⟨X,P,L,nu,las,qAE.of_tm qB3 (qAG qAB) (Eq.mp (q1b _ lp d L.length P X (fun r=>r=(.int .i64 (.ofNat 0),X))) ⟨vg0 h.at_.lg,vg5 h.at_.lg,?_,eT rfl,rfl⟩),⟨h.at_,h.dv.mono (Nat.le_succ _),h.ag.le (Nat.le_succ _),h.hl,by omega,h.xb⟩⟩;rw[←hL];exact h.at_.hot.len (E:=ESv)
 ·obtain⟨X',las',w,hv,nx,gl,kk,bb⟩:=qQ3 (b1:=S.next) (P:=.slice none 0 (.known 0)) (L:=[]) hS h.dv (by omega) (by omega) h.at_.lg ⟨by omega,by omega⟩ (by omega) (.inl ⟨rfl,rfl⟩) (fun e he=>by cases he) (by decide) (by omega);have hok:=qAJ w;refine⟨X',_,[],nu+1,las',qAE.of_tm qB3 (qAG hok) (Eq.mp (vcCb _ lp d L.length P X X' (fun r=>r=(.int .i64 (.ofNat 0),X'))) ⟨vg0 h.at_.lg,vg5 h.at_.lg,h.at_.hot.len (E:=ESv),eF hL,ca qA6,rfl⟩),⟨AtS.relog h.at_ gl (.inl ⟨rfl,rfl⟩) (kk sp (h.at_.tidy.lt h.at_.st) (by omega) (by omega) n3) (kk mp (h.at_.tidy.lt h.at_.mg) (by omega) (by omega) (Ne.symm n2)) hv.tidy (by omega),hv,h.ag.log (by omega) (fun e he=>by cases he) (by rw[bb _ (by omega),if_pos rfl]) (fun i hi hne=>by rw[bb i (by omega),if_neg hne]),⟨List.nodup_nil,fun e he=>(by cases he),Nat.zero_le _⟩,by omega,h.xb⟩⟩
end
section
variable {q q2:CallT} {H:List Nat→Nat→Nat} {XX:List Nat→Nat} {base d l m k room nu sp lp mp s cc t:Nat} {S0 S X X':ASt} {las:List (List Nat)} {x y:Nat→Nat} {c:Bool} {P:AV} {L:List Nat}
theorem Lv.sup_ok (h:Lv H XX base S0 S X d l m k room sp lp mp x y c P L s nu las cc t):qDa (x 0) (x 1) (x 2)=true:=by
 have:=my.q0k h.ag.e1;rw[h.ag.xs 0 (by decide),h.ag.xs 1 (by decide),h.ag.xs 2 (by decide)] at this;exact this
theorem qTX (hS:Sums q H) (C:Cx base S d l m k room) (h:Lv H XX base S0 S X d l m k room sp lp mp x y c P L s nu las cc t) (ht:t<900) :
  ∃X' x' P' L' nu' las',qAE Tryz.prog 38 [.ptr (some (sp,0))] X (.int .i64 (.ofNat 0),X')∧Lv H XX base S0 S X' d l m k room sp lp mp x' y false P' L' s nu' las' (cc+3) (t+3):=by
 obtain⟨S1,las1,w1,h1⟩:=qWn hS C h (by omega);obtain⟨S2,P2,L2,nu2,las2,w2,h2⟩:=qTY hS C h1 (by omega);obtain⟨S3,e3⟩:∃Y,Y=S2.add (.cells (sL (fun _=>0) false) true):=⟨_,rfl⟩;obtain⟨S4,e4⟩:∃Y,Y=S3.put S2.next (.cells (sL x c) true):=⟨_,rfl⟩;obtain⟨S5,e5⟩:∃Y,Y=S4.put S2.next (.cells ((sL x c).set 1 (.bool false)) true):=⟨_,rfl⟩;have g3:S3.h.get S2.next=some (.cells (sL (fun _=>0) false) true):=by rw[e3];exact qBM
 have g4:S4.h.get S2.next=some (.cells (sL x c) true):=by rw[e4];exact qAl
 have g5:S5.h.get S2.next=some (.cells ((sL x c).set 1 (.bool false)) true):=by rw[e5];exact qAl
 have n3:S3.next=S2.next+1:=by rw[e3];rfl
 have n4:S4.next=S3.next:=by rw[e4];rfl
 have n5:S5.next=S4.next:=by rw[e5];rfl
 have h5:=h2.grow (X':=S5) (by omega) (by rw[e5,e4,e3];exact ((h2.at_.tidy.add).put (show _<S2.next+1 by omega)).put (show _<S2.next+1 by omega)) (fun i hi=>by rw[e5,qA3 (by omega),e4,qA3 (by omega),e3,qAj (by omega)]);obtain⟨S6,x6,las6,w6,h6⟩:=qUu (c':=false) (x':=x) hS C h5 (by omega) h.sup_ok h.xb;have hok:=orC_ok (qAJ w1) (orC_ok (qAJ w2) (orC_ok (qAJ (qFX (S:=S2) (sp:=sp) (e:=0) (by decide) (by decide))) (qAJ w6)));refine⟨S6,x6,P2,L2,nu2,las6,?_,h6⟩;exact qR5 Tryz.f38 c38 29 2 0 (qAG hok) (Eq.mp (vcLe _ sp lp S2.next c x 0 X S1 S2 S3 S4 S5 S6 (fun z=>z=(.ret,xFr [(2,.int .i64 (.ofNat 0))] 29,S6)))
  ⟨ca oL,nF rfl,vl h1.at_.st,ca (oR oL),ca (oR (oR oL)),nF rfl,vs h2.at_.st,by rw[e3];kernel_rfl,by rw[e4];exact qAz (qCJ (B:=sL (fun _=>0) false) (by kernel_rfl) rfl rfl g3),by rw[e5];exact qAz (qBk (j:=1) (by kernel_rfl) g4 (by show 1<7;decide) rfl),qAp (z:=7) (by kernel_rfl) g5 (by kernel_rfl),ca (oR (oR (oR qA6))),rfl⟩)
theorem qQ5 {X1:ASt} {las1 las':List (List Nat)} {L':List Nat} {P':AV} {nu' cc1:Nat} (C:Cx base S d l m k room) (h:Agr H XX (nb las1 []) k x y c s nu L t) (ht:t<1000) (xb:∀i,x i<18446744073709551616) (hcc:cc1+1≤20*(t+1)+200)
  (hT:Tch H base S0 S X1 X' d l m (9+k) cc1 k room nu sp lp mp x y c s las1 las' L L' P' nu'):Lv H XX base S0 S X' d l m k room sp lp mp x y c P' L' s nu' las' (cc1+1) (t+1):=by
 refine⟨hT.at_,hT.dv,?_,hT.hl,hcc,xb⟩;rcases hT.kind with⟨rfl,hb,hL⟩ | ⟨rfl,hb⟩
 ·exact ((h.congr fun i hi=>hb i (by omega)).hot hL).le (Nat.le_succ _)
 ·exact h.log (by omega) hT.hl.lt (by rw[hb _ (by omega),if_pos rfl]) (fun i hi hne=>by rw[hb i (by omega),if_neg hne])
theorem qTV {e:Nat} (hS:Sums q H) (C:Cx base S d l m k room) (h:Lv H XX base S0 S X d l m k room sp lp mp x y c P L s nu las cc t) (ht:t<900) (he:e<16) :
  ∃X' P' L' nu' las',qAE Tryz.prog 89 [.ptr (some (sp,0)),.int .i64 (.ofNat e)] X (.int .i64 (.ofNat 0),X')∧Lv H XX base S0 S X' d l m k room sp lp mp x y c P' L' s nu' las' (cc+2) (t+2)∧∀i,S.next≤i→i<X.next→i≠lp→X'.h.get i=X.h.get i:=by
 have hcb:=h.cb;have hb3:=h.ag.b3;have hh:=h.hl;have los:=h.at_.los;have lol:=h.at_.lol;have lom:=h.at_.lom;have hXS:=h.at_.next;have hLn:L.length<1000:=by have:=hh.len;have:=C.r2;omega
 obtain⟨c1,c2,c3,c4,c5,c6,c7,c8⟩:=C;have C:Cx base S d l m k room:=⟨c1,c2,c3,c4,c5,c6,c7,c8⟩;have fin:∀{X1 las1 cc1} , Lv H XX base S0 S X1 d l m k room sp lp mp x y c P L s nu las1 cc1 (t+1)→cc1≤cc+1→X.next≤X1.next→∃a b X' P' L' nu' las',qAE Tryz.prog 146 [.ptr (some (lp,0)),.int .i64 (.ofNat e)] X1 (.tuple [a,b,.int .i64 (.ofNat 0)],X')∧Lv H XX base S0 S X' d l m k room sp lp mp x y c P' L' s nu' las' (cc+2) (t+2)∧∀i,S.next≤i→i<X.next→i≠lp→X'.h.get i=X1.h.get i:=fun {X1 las1 cc1} h1 hc1 hx1=>by
  obtain⟨a,b,X',las',L',P',nu',w,hT⟩:=qQ7 (e:=e) hS h1.at_ h1.dv (by omega) (by omega) c1 c2 c3 c4 h1.hl c7 c8 (by have:=h1.ag.b3;omega) he;have r:=qQ5 C h1.ag (by omega) h1.xb (by omega) hT;exact⟨a,b,X',P',L',nu',las',w,⟨r.at_,r.dv.mono (by omega),r.ag,r.hl,by omega,r.xb⟩,fun i h1 h2 hp=>hT.kp i (by omega) (by omega) (by omega) hp⟩
 rcases Nat.lt_or_ge L.length room with hr | hr
 ·-- there is room
  obtain⟨a,b,X',P',L',nu',las',w,h',kp⟩:=fin (h.le (Nat.le_succ _)) (Nat.le_succ _) (Nat.le_refl _);have w1:=qTb h.at_.lg h.at_.hot hr;have hok:=orC_ok (qAJ w1) (qAJ w);refine⟨X',P',L',nu',las',?_,h',kp⟩;exact qR5 Tryz.f89 c89 52 4 0 (qAG hok) (Eq.mp (vcJa _ sp lp e a b X X' (fun z=>z=(.ret,xFr [(4,.int .i64 (.ofNat 0))] 52,X')))
   ⟨vl h.at_.st,ca oL,vl h.at_.st,ca (oR qA6),rfl⟩)
 ·obtain⟨f,w1⟩:=qTc h.at_.lg h.at_.hot hr c7;have w2:=qXJ (e:=e) h.at_.tidy h.at_.lg h.at_.hot hLn
  by_cases hm:e∈L
  ·rw[decide_eq_true hm] at w2;obtain⟨a,b,X',P',L',nu',las',w,h',kp⟩:=fin (h.le (Nat.le_succ _)) (Nat.le_succ _) (Nat.le_refl _);have hok:=orC_ok (qAJ w1) (orC_ok (qAJ w2) (qAJ w));refine⟨X',P',L',nu',las',?_,h',kp⟩;exact qR5 Tryz.f89 c89 52 4 0 (qAG hok) (Eq.mp (vcJb _ sp lp e f a b X X' (fun z=>z=(.ret,xFr [(4,.int .i64 (.ofNat 0))] 52,X')))
    ⟨vl h.at_.st,ca oL,vl h.at_.st,ca (oR oL),vl h.at_.st,ca (oR (oR qA6)),rfl⟩)
  ·rw[decide_eq_false hm] at w2;obtain⟨Y,eY⟩:∃Y,Y=ASt.mk X.h (X.next+10):=⟨_,rfl⟩;have hY:=h.grow (X':=Y) (by rw[eY];exact Nat.le_add_right _ _) (by rw[eY];exact h.at_.tidy.mk (Nat.le_add_right _ _)) (fun i hi=>by rw[eY]);have nY:Y.next=X.next+10:=by rw[eY]
   obtain⟨S1,las1,w3,hv1,n1,k1,b1⟩:=qPq hS hY.dv (by omega) (by omega) hY.at_.mg (s64 h c6) c5;have h1:Lv H XX base S0 S S1 d l m k room sp lp mp x y c P L s nu las1 (cc+1) (t+1):=⟨hY.at_.keep (fun i h1 h2=>k1 i h2 (by omega) (by omega)) hv1.tidy (by omega),hv1,(h.ag.map h.ag.fit c6 (by rw[b1 4 (by omega),if_pos rfl]) (fun i hi hne=>by rw[b1 i (by omega),if_neg hne])).le (Nat.le_succ _),h.hl,by omega,h.xb⟩;obtain⟨a,b,X',P',L',nu',las',w,h',kp⟩:=fin h1 (Nat.le_refl _) (by omega);have hok:=orC_ok (qAJ w1) (orC_ok (qAJ w2) (orC_ok (qAJ w3) (qAJ w)));refine⟨X',P',L',nu',las',?_,h',fun i h1 h2 hp=>by rw[kp i h1 h2 hp,k1 i (by omega) (by omega) (by omega),eY]⟩;subst eY;exact qR5 Tryz.f89 c89 52 4 0 (qAG hok) (Eq.mp (vcJc _ sp lp mp d e f a b X S1 X' (fun z=>z=(.ret,xFr [(4,.int .i64 (.ofNat 0))] 52,X')))
    ⟨vl h.at_.st,ca oL,vl h.at_.st,ca (oR oL),vm (S:=ASt.mk X.h (X.next+10)) h.at_.st,vd (S:=ASt.mk X.h (X.next+10)) h.at_.st,ca (oR (oR oL)),trivial,vl h1.at_.st,ca (oR (oR (oR qA6))),rfl⟩)
end
section
variable {q q2:CallT} {H:List Nat→Nat→Nat} {XX:List Nat→Nat} {base d l m k room nu sp lp mp s cc t:Nat} {S0 S X X':ASt} {las:List (List Nat)} {x y:Nat→Nat} {c:Bool} {P:AV} {L:List Nat}
theorem qTU {z:Int} {B:List Nat} (hS:Sums q H) (C:Cx base S d l m k room) (h:Lv H XX base S0 S X d l m k room sp lp mp x y c P L s nu las cc t) (ht:t<900) (hB:byL B) :
  ∃e X' P' L' nu' las',qAE Tryz.prog 34 [.ptr (some (sp,0)),.int .i64 z,.agg (bl B),.bool true] X (.int .i64 (.ofNat e),X')∧Lv H XX base S0 S X' d l m k room sp lp mp x y c P' L' s nu' las' (cc+3) (t+3):=by
 have hcb:=h.cb;have los:=h.at_.los;have hXS:=h.at_.next;obtain⟨c1,c2,c3,c4,c5,c6,c7,c8⟩:=C;have C:Cx base S d l m k room:=⟨c1,c2,c3,c4,c5,c6,c7,c8⟩;obtain⟨S1,e1,n1,k1,t1,g1,hY,hst1⟩:=qQ6 (vs:=bl B) (o:=0) h;have h1:Lv H XX base S0 S S1 d l m k room sp lp mp x y c P L s nu las cc t:=hY;have bad:∀{X2},Lv H XX base S0 S X2 d l m k room sp lp mp x y c P L s nu las cc t→Lv H XX base S0 S X2 d l m k room sp lp mp x y c P L s nu las (cc+3) (t+3):=fun h=>⟨h.at_,h.dv.mono (by omega),h.ag.le (by omega),h.hl,by omega,h.xb⟩;rcases Int.lt_or_le z k with hz | hz
 ·match z,hz with
  | .negSucc w,hz =>
   have hok:=qAJ (qDr (z:=.negSucc w) hst1 hz);refine⟨5,S1,P,L,nu,las,?_,bad h1⟩;exact qR5 Tryz.f34 c34 54 8 5 (qAG hok) (Eq.mp (vcWb _ sp X.next (.negSucc w) B X S1 (fun z=>z=(.ret,xFr [(8,.int .i64 (.ofNat 5))] 54,S1)))
    ⟨by rw[e1];rfl,ca qA6,nT (by decide),by rw[qKi];exact congrArg (fun g=>some (AV.bool g,S1)) (decide_eq_true (by exact Int.negSucc_lt_zero w)),nT (by decide),rfl⟩)
  | .ofNat i,hz =>
   have hi:i<k:=by simp only[Int.ofNat_eq_natCast] at hz;omega
   obtain⟨S2,P',L',nu',las2,w2,h2,kp⟩:=qTV (e:=i / 4) hS C h1 ht (by omega);obtain⟨Y,eY⟩:∃Y,Y=ASt.mk S2.h (S2.next+9):=⟨_,rfl⟩;have nY:Y.next=S2.next+9:=by rw[eY]
   have h3:=h2.grow (X':=Y) (by omega) (by rw[eY];exact h2.at_.tidy.mk (Nat.le_add_right _ _)) (fun i hi=>by rw[eY]);obtain⟨S3,es3,w3,hv3,n3,k3,b3⟩:=Dv.writeV (i:=9+i) (b:=B) h3.dv (by omega) (by omega) hB;obtain⟨S4,las4,ck,w4,hv4,n4,k4,b4,_,_⟩:=Dv.flushV hv3 (by omega) (by omega);have hXS2:=h2.at_.next;have A4:=h3.at_.keep (X':=S4) (fun i h1 h2=>by rw[k4 i (by omega) (by omega) (by omega),k3 i (by omega) (by omega)]) hv4.tidy (by omega);have hst3:S3.h.get sp=some (stO d k x c (.ptr (some (lp,0))) (.ptr (some (mp,0))) y):=by rw[k3 sp (h3.at_.tidy.lt h3.at_.st) (by omega)];exact h3.at_.st
   have hg2:S2.h.get X.next=some (.cells (bl B) true):=by rw[kp X.next (by omega) (by omega) (Nat.ne_of_gt (h.at_.tidy.lt h.at_.lg))];exact g1
   have hok:=orC_ok (qAJ (qDr (z:=.ofNat i) hst1 (show ((i:Nat):Int)<k by omega))) (orC_ok (qAJ w2) (orC_ok (qAJ w3) (orC_ok (qAJ w4) (qAJ (qFX (S:=S4) (sp:=sp) (e:=0) (by decide) (by decide))))));refine⟨0,S4,P',L',nu',las4,?_,⟨A4,hv4,(h2.ag.congr fun j hj=>by rw[b4 j (by omega),b3 j,if_neg (by omega)]).le (Nat.le_succ _),h2.hl,by omega,h2.xb⟩⟩;subst eY;exact qR5 Tryz.f34 c34 54 8 0 (qAG hok) (Eq.mp (vcWc _ sp X.next d i B X S1 S2 S3 S4 (fun z=>z=(.ret,xFr [(8,.int .i64 (.ofNat 0))] 54,S4)))
    ⟨by rw[e1];rfl,ca oL,nT (by decide),lF (Nat.zero_le _),nF rfl,q2L (by omega) (by decide),ca (oR oL),nF rfl,vd (S:=ASt.mk S2.h (S2.next+9)) h2.at_.st,qDt (by omega),qAp (z:=256) (by kernel_rfl) (show (ASt.mk S2.h (S2.next+9)).h.get X.next=_ from hg2) qBx,ca (oR (oR oL)),trivial,nF rfl,vd hst3,ca (oR (oR (oR oL))),ca (oR (oR (oR (oR qA6)))),rfl⟩)
 ·have hok:=qAJ (qTA (z:=z) hst1 hz);refine⟨5,S1,P,L,nu,las,?_,bad h1⟩;exact qR5 Tryz.f34 c34 54 8 5 (qAG hok) (Eq.mp (vcWa _ sp X.next z B X S1 (fun z=>z=(.ret,xFr [(8,.int .i64 (.ofNat 5))] 54,S1)))
   ⟨by rw[e1];rfl,ca qA6,nT (by decide),by rw[qKi];exact congrArg (fun g=>some (AV.bool g,S1)) (decide_eq_false (show ¬z<0 by omega)),nT (by decide),rfl⟩)
end
end stv
namespace stv
open cd (qAm qFh qGI qGJ qYb)
open cd9 (qLu qQE qO5 qCd qAi qAc qA8)
open cd2 (qKg UK)
open cd3 cd4 cd5 sh dsk fm
section
variable {base d l m n c:Nat} {S0 X:ASt} {las:List (List Nat)} {es:List En} {L:List (Nat×AO)}
theorem qGQ {k f:Nat} {ar args:List AV} {S X:ASt} {r:AV×ASt} (h:X≠S):qGb k ar S r f args X=none:=by unfold qGb;rw[if_neg (fun x=>h x.2.2)]
theorem qAd {k f:Nat} {ar args:List AV} {S X:ASt} {r:AV×ASt} (h:args≠ar):qGb k ar S r f args X=none:=by unfold qGb;rw[if_neg (fun x=>h x.2.1)]
theorem qAe {i j:Nat} {a b:AV} (h:i≠j):[pO d,dsk.nI i,a]≠[pO d,dsk.nI j,b]:=fun q=>by
 injection q with _ q;injection q with q _;injection q with _ q;exact h (Int.ofNat.inj q)
theorem qYf {b:List Nat} {i:Nat} (h:Dv base S0 X d l m n c las es) (hc:c<1000000) (hi:i<n) (hb:byL b):∃S' es',qAE Tryz.prog 19 [dsk.pO d,dsk.nI i,.agg (bl b)] X (dsk.nI 0,S')∧Dv base S0 S' d l m n (c+1) las es'∧X.next≤S'.next∧(∀k,k<X.next→k≠m→S'.h.get k=X.h.get k)∧(∀j,nb las es' j=if j=i then blV b else nb las es j)∧∀j,qDo es' j=if j=i then qDo es i++[b] else qDo es j:=by
 obtain⟨ck,hd⟩:=h.dk;have hl:=h.llo;have hm:=h.mlo;obtain⟨S',es',ck',hcall,hd',ht',hn',hk',hv',hr'⟩:=dsk.qMg (b:=b) hd h.tidy (show i<las.length by rw[h.len];exact hi) (Nat.lt_of_le_of_lt (h.few i) hc);refine⟨S',es',hcall,⟨⟨ck',hd'⟩,hl,hm,h.dlo,h.len,fun a ha=>?_,fun j=>?_,h.lby,fun j x hx=>?_,ht',Nat.le_trans h.next hn',fun k hk=>?_⟩,hn',fun k hk hkm=>hk' k hk hkm,fun j=>?_,hv'⟩
 ·rcases hr' a ha with⟨e,he,hea⟩ | hge
  ·rw[←hea];exact h.rlo e he
  ·exact Nat.le_trans h.next hge
 ·rw[hv']
  split
  ·rw[List.length_append];have:=h.few i;simp only[List.length_singleton];omega
  ·exact Nat.le_succ_of_le (h.few j)
 ·rw[hv'] at hx
  split at hx
  ·rcases List.mem_append.1 hx with hx | hx
   ·exact h.vby i x hx
   ·rw[List.mem_singleton.1 hx];exact hb
  ·exact h.vby j x hx
 ·rw[hk' k (Nat.lt_of_lt_of_le hk h.next) (by omega)];exact h.same k hk
 ·unfold nb dsk.qDN;rw[hv']
  split
  ·rename_i e;rw[List.getLast?_append];rfl
  ·rfl
theorem qW4 {S T:ASt} {c c' i:Nat} {las':List (List Nat)} {es':List En} (h:Dv base S0 S d l m n c las es) (h':Dv base S0 T d l m n c' las' es') (h1:qDo es i≠[]) (h2:qDo es' i=[]):T≠S:=fun q=>by
 subst q;obtain⟨ck,hd⟩:=h.dk;obtain⟨ck',hd'⟩:=h'.dk;have e:=hd.hm.symm.trans hd'.hm;injection e with e;injection e with e _;obtain⟨a,ha,hk⟩:∃a,a∈es∧a.k=i:=Classical.byContradiction fun hn=>h1 (qCI fun a ha q=>hn ⟨a,ha,q⟩);have hm:qTl a∈qCo es':=by rw[←e];exact List.mem_map.2 ⟨a,ha,rfl⟩
 obtain⟨b,hb,hab⟩:=List.mem_map.1 hm;have hkb:b.k=a.k:=Int.ofNat.inj (AV.int.inj (congrArg (·.1) hab)).2;have hvb:=(hd'.row b hb).2.1;have:=qOv hd'.keys hb;rw[hkb,hk,h2] at this;exact hvb this.symm
theorem Dv.lmV (h:Dv base S0 X d l m n c las es):l<X.next∧m<X.next:=DV.lm ⟨las,es,h⟩
theorem Ow.kept {X':ASt} (o:Ow l m X L) (h:Dv base S0 X d l m n c las es) (hk:∀k,k<X.next→k≠l→k≠m→X'.h.get k=X.h.get k):Ow l m X' L :=
 ⟨fun i p hp=>by
  obtain⟨h1,h2,h3⟩:=o.loc i p hp;exact⟨by rw[hk p.1 (h.tidy.lt h1) h2 h3];exact h1,h2,h3⟩⟩
theorem bxV (o:Ow l m X L) (h:Dv base S0 X d l m n c las es) (a:AO):∃X',X'=X.add a∧Ow l m X' (L++[(X.next,a)])∧Dv base S0 X' d l m n c las es∧X'.next=X.next+1:=by
 obtain⟨X',e,o',_⟩:=o.box ⟨las,es,h⟩ a;exact⟨X',e,o',by rw[e];exact h.keep (Nat.le_succ _) h.tidy.add (fun k hk=>qAj (by omega)),by rw[e];rfl⟩
theorem faV {E:Env} {t:TypeId} {z:Nat} (o:Ow l m X L) (h:Dv base S0 X d l m n c las es) (Z V:List AV) (hT:qYZ E t=some z) (hz:Z.length=z) (hv:V.length=z):∃X1 X2,X1=X.add (.cells Z true)∧Option.map (fun s=>(qAC,s)) (qAL E t (.ptr (some (X.next,0))) (.agg V) X1)=some (.tuple [],X2)∧Ow l m X2 (L++[(X.next,.cells V true)])∧Dv base S0 X2 d l m n c las es∧X2.next=X.next+1:=by
 have st:qAL E t (.ptr (some (X.next,0))) (.agg V) (X.add (.cells Z true))=some ((X.add (.cells Z true)).put X.next (.cells V true)):=qCJ hT hv hz qBM;have hlm:=Dv.lmV h;refine⟨_,_,rfl,qAz st,⟨fun i p hi=>?_⟩,h.keep (by rw[qBz,qBe];omega) (h.tidy.add.put (by rw[qBe];omega)) (fun k hk=>by rw[qA3 (by omega),qAj (by omega)]),rfl⟩;rcases qFe hi with⟨_,hp⟩ | ⟨_,rfl⟩
 ·obtain⟨h1,h2,h3⟩:=o.loc i p hp;have:=h.tidy.lt h1;exact⟨by rw[qA3 (by omega),qAj (by omega)];exact h1,h2,h3⟩
 ·exact⟨qAl,by simp only;omega,by simp only;omega⟩
theorem f1V {E:Env} {t:TypeId} (o:Ow l m X L) (h:Dv base S0 X d l m n c las es) (z v:AV) (hT:qZ1 E t=true) (hv:v.isCell=true):∃X1 X2,X1=X.add (.cells [z] true)∧Option.map (fun s=>(qAC,s)) (qAL E t (.ptr (some (X.next,0))) v X1)=some (.tuple [],X2)∧Ow l m X2 (L++[(X.next,.cells [v] true)])∧Dv base S0 X2 d l m n c las es∧X2.next=X.next+1:=by
 have hlm:=Dv.lmV h;have st:qAL E t (.ptr (some (X.next,0))) v (X.add (.cells [z] true))=some ((X.add (.cells [z] true)).put X.next (.cells [v] true)):=qBk hT qBM (by simp) hv;refine⟨_,_,rfl,qAz st,⟨fun i p hi=>?_⟩,h.keep (by rw[qBz,qBe];omega) (h.tidy.add.put (by rw[qBe];omega)) (fun k hk=>by rw[qA3 (by omega),qAj (by omega)]),rfl⟩;rcases qFe hi with⟨_,hp⟩ | ⟨_,rfl⟩
 ·obtain⟨h1,h2,h3⟩:=o.loc i p hp;have:=h.tidy.lt h1;exact⟨by rw[qA3 (by omega),qAj (by omega)];exact h1,h2,h3⟩
 ·exact⟨qAl,by simp only;omega,by simp only;omega⟩
theorem wrV {b:List Nat} {i:Nat} (o:Ow l m X L) (h:Dv base S0 X d l m n c las es) (hc:c<1000000) (hi:i<n) (hb:byL b):∃S' es',qAE Tryz.prog 19 [dsk.pO d,dsk.nI i,.agg (bl b)] X (dsk.nI 0,S')∧Ow l m S' L∧Dv base S0 S' d l m n (c+1) las es'∧X.next≤S'.next∧(∀j,nb las es' j=if j=i then blV b else nb las es j)∧∀j,qDo es' j=if j=i then qDo es i++[b] else qDo es j:=by
 obtain⟨S',es',h1,h2,h3,h4,h5,h6⟩:=qYf h hc hi hb;exact⟨S',es',h1,Ow.kept o h (fun k a _ b=>h4 k a b),h2,h3,h5,h6⟩
theorem flV (o:Ow l m X L) (h:Dv base S0 X d l m n c las es) (hc:c<1000000) (hn0:0<n):∃S' las',qAE Tryz.prog 40 [dsk.pO d] X (dsk.nI 0,S')∧Ow l m S' L∧Dv base S0 S' d l m n c las' []∧X.next≤S'.next∧∀j,j<n→nb las' [] j=nb las es j:=by
 obtain⟨S',las',ck,h1,h2,h3,h4,h5,_,_⟩:=pu.Dv.flushV h hc hn0;exact⟨S',las',h1,Ow.kept o h h4,h2,h3,h5⟩
end
theorem qIK {S:ASt} {k:Nat} (ht:Tidy S) (h1:1≤k) (h2:k≤64):∃S' d l m las,qAE Tryz.prog 14 [.int .i64 (.ofNat k)] S (.ptr (some (d,0)),S')∧Dv S.next S S' d l m (9+k) 100 las []∧∀j,j<9→nb las [] j=if j=0 then blV bS else if j=2 then blV bK else if j=4 then blV bM else blV []:=by
 have hMB:byL bM:=qGM qDb.lt (cd.qHj 0);have hKB:byL bK:=fun j=>qLv XX 1 0 0 0 (fun _=>0) j;have hSB:byL bS:=qGM qDb.lt (cd.qGL _ _ _ _ _ _ _ (by decide));obtain⟨S1,d,l,m,hc13,v1⟩:=Dv.new ht (n:=9+k) (by omega) (by omega);have o1:Ow l m S1 []:=Ow.nil;obtain⟨S2,e2,o2,v2,x2⟩:=bxV o1 v1 (.cells [.ptr (some (d,0))] true);obtain⟨S3,e3,o3,v3,x3⟩:=bxV o2 v2 (.cells lnA true);obtain⟨S4,e4,o4,v4,x4⟩:=bxV o3 v3 (.cells [.int .i64 (.ofNat 4)] true);obtain⟨S5,e5,o5,v5,x5⟩:=bxV o4 v4 (.cells ([.int .i64 (.ofNat k)]++[.int .u64 (.ofNat 0)]) true);obtain⟨S6,S7,e6,e7,o7,v7,x7⟩:=f1V (E:=fm.EF) (t:=73) o5 v5 (.ptr none) (.ptr (some (S4.next,0))) (by kernel_rfl) rfl;obtain⟨SX,eX,oX,vX,xX⟩:=bxV o7 v7 (.cells [.clos 113 [.ptr (some (S1.next,0))],.clos 115 [.ptr (some (S5.next,0)),.ptr (some (S1.next,0))],.clos 116 [.ptr (some (S1.next,0))],.clos 118 [.ptr (some (S1.next,0)),.ptr (some (S2.next,0)),.ptr (some (S3.next,0))]] true);rw[eX] at oX vX xX;obtain⟨S8,es8,w8,o8,v8,x8,b8,g8⟩:=wrV (i:=5) (b:=[]) oX vX (by omega) (by omega) qEp;obtain⟨S9,es9,w9,o9,v9,x9,b9,g9⟩:=wrV (i:=6) (b:=[]) o8 v8 (by omega) (by omega) qEp;obtain⟨S10,es10,w10,o10,v10,x10,b10,g10⟩:=wrV (i:=7) (b:=[]) o9 v9 (by omega) (by omega) qEp;obtain⟨S11,es11,w11,o11,v11,x11,b11,g11⟩:=wrV (i:=8) (b:=[]) o10 v10 (by omega) (by omega) qEp;obtain⟨S12,la12,w12,o12,v12,x12,b12⟩:=flV o11 v11 (by omega) (by omega);obtain⟨S13,es13,w13,o13,v13,x13,b13,g13⟩:=wrV (i:=4) (b:=bM) o12 v12 (by omega) (by omega) hMB;obtain⟨S14,la14,w14,o14,v14,x14,b14⟩:=flV o13 v13 (by omega) (by omega);obtain⟨S15,es15,w15,o15,v15,x15,b15,g15⟩:=wrV (i:=3) (b:=[]) o14 v14 (by omega) (by omega) qEp;obtain⟨S16,S17,e16,e17,o17,v17,x17⟩:=faV (E:=fm.EF) (t:=54) (z:=256) o15 v15 (bl []) (bl bK) (by kernel_rfl) (qBI _) (qBI _);obtain⟨S18,e18,o18,v18,x18⟩:=bxV o17 v17 (.cells (bl bK) true);obtain⟨S19,es19,w19,o19,v19,x19,b19,g19⟩:=wrV (i:=2) (b:=bK) o18 v18 (by omega) (by omega) hKB;obtain⟨S20,la20,w20,o20,v20,x20,b20⟩:=flV o19 v19 (by omega) (by omega);obtain⟨S21,e21,o21,v21,x21⟩:=bxV o20 v20 (.cells lnA true);obtain⟨S22,S23,e22,e23,o23,v23,x23⟩:=faV (E:=fm.EF) (t:=54) (z:=256) o21 v21 (bl []) (bl bS) (by kernel_rfl) (qBI _) (qBI _);obtain⟨S24,es24,w24,o24,v24,x24,b24,g24⟩:=wrV (i:=1) (b:=[]) o23 v23 (by omega) (by omega) qEp;obtain⟨S25,es25,w25,o25,v25,x25,b25,g25⟩:=wrV (i:=0) (b:=bS) o24 v24 (by omega) (by omega) hSB;obtain⟨S26,la26,w26,o26,v26,x26,b26⟩:=flV o25 v25 (by omega) (by omega);obtain⟨Y7,eY7⟩:∃Y,Y=S7.add (.cells [.clos 113 [.ptr (some (S1.next,0))],.clos 115 [.ptr (some (S5.next,0)),.ptr (some (S1.next,0))],.clos 116 [.ptr (some (S1.next,0))],.clos 118 [.ptr (some (S1.next,0)),.ptr (some (S2.next,0)),.ptr (some (S3.next,0))]] true):=⟨_,rfl⟩;rw[←eY7] at w8;have ne1:S13≠S11:=qW4 (i:=5) v11 v13 (by rw[g11,if_neg (by decide),g10,if_neg (by decide),g9,if_neg (by decide),g8,if_pos rfl];exact fun q=>absurd (congrArg List.length q) (by simp[qDo])) (by rw[g13,if_neg (by decide)];rfl);have neN:∀{A B:ASt},B.next<A.next→A≠B:=fun h q=>by rw[q] at h;exact Nat.lt_irrefl _ h
 have hok:=orC_ok (qAJ hc13) (orC_ok (qAJ w8) (orC_ok (qAJ w9) (orC_ok (qAJ w10) (orC_ok (qAJ w11) (orC_ok (qAJ w13) (orC_ok (qAJ w15) (orC_ok (qAJ w19) (orC_ok (qAJ w24) (orC_ok (qAJ w25) (orC_ok (qAJ w12) (orC_ok (qAJ w14) (orC_ok (qAJ w20) (orC_ok (qAJ w26) (orC_ok (q0H (base:=S.next) (S0:=S) (d:=d) (l:=l) (m:=m) (n:=9+k)) (orC_ok (qAi qYE) (orC_ok (qAi bM_at) (orC_ok (qAi bK_at) (qAi bS_at))))))))))))))))));obtain⟨q,hq⟩:∃q,q=orC (qGb 13 [dsk.nI (9+k)] S (.tuple [pO d,dsk.nI 0],S1)) (orC (qGb 19 [pO d,dsk.nI 5,.agg (bl [])] Y7 (dsk.nI 0,S8)) (orC (qGb 19 [pO d,dsk.nI 6,.agg (bl [])] S8 (dsk.nI 0,S9)) (orC (qGb 19 [pO d,dsk.nI 7,.agg (bl [])] S9 (dsk.nI 0,S10)) (orC (qGb 19 [pO d,dsk.nI 8,.agg (bl [])] S10 (dsk.nI 0,S11)) (orC (qGb 19 [pO d,dsk.nI 4,.agg (bl bM)] S12 (dsk.nI 0,S13)) (orC (qGb 19 [pO d,dsk.nI 3,.agg (bl [])] S14 (dsk.nI 0,S15)) (orC (qGb 19 [pO d,dsk.nI 2,.agg (bl bK)] S18 (dsk.nI 0,S19)) (orC (qGb 19 [pO d,dsk.nI 1,.agg (bl [])] S23 (dsk.nI 0,S24)) (orC (qGb 19 [pO d,dsk.nI 0,.agg (bl bS)] S24 (dsk.nI 0,S25)) (orC (qGb 40 [pO d] S11 (dsk.nI 0,S12)) (orC (qGb 40 [pO d] S13 (dsk.nI 0,S14)) (orC (qGb 40 [pO d] S19 (dsk.nI 0,S20)) (orC (qGb 40 [pO d] S25 (dsk.nI 0,S26)) (orC (dvC S.next S d l m (9+k)) (orC (qCd 76 [qGJ 4 false 7 0 0 0 0] (.bool true)) (orC (qCd 62 [.int .u64 (.ofNat 0)] (.agg (bl bM))) (orC (qCd 61 [qKg 0 0 0 (fun _=>0),.int .u64 (.ofNat 1)] (.tuple [.agg (bl bK),.int .i64 (.ofNat 0)])) (qCd 60 [qGJ 4 false 7 0 0 0 1] (.tuple [.agg (bl bS),.int .i64 (.ofNat 0)]))))))))))))))))))):=⟨_,rfl⟩;rw[←hq] at hok;have hnew:q 13 [.int .i64 (.ofNat (9+k))] S=some (.tuple [.ptr (some (d,0)),.int .i64 (.ofNat 0)],S1):=by rw[hq];exact oL
 have h8:q 19 [.ptr (some (d,0)),.int .i64 (.ofNat 5),.agg (bl [])] Y7=some (.int .i64 (.ofNat 0),S8):=by rw[hq];exact oR oL
 have h9:q 19 [.ptr (some (d,0)),.int .i64 (.ofNat 6),.agg (bl [])] S8=some (.int .i64 (.ofNat 0),S9):=by rw[hq];exact oR (qAW (qAd (qAe (by decide))) oL)
 have h10:q 19 [.ptr (some (d,0)),.int .i64 (.ofNat 7),.agg (bl [])] S9=some (.int .i64 (.ofNat 0),S10):=by rw[hq];exact oR (qAW (qAd (qAe (by decide))) (qAW (qAd (qAe (by decide))) oL))
 have h11:q 19 [.ptr (some (d,0)),.int .i64 (.ofNat 8),.agg (bl [])] S10=some (.int .i64 (.ofNat 0),S11):=by rw[hq];exact oR (qAW (qAd (qAe (by decide))) (qAW (qAd (qAe (by decide))) (qAW (qAd (qAe (by decide))) oL)))
 have h13:q 19 [.ptr (some (d,0)),.int .i64 (.ofNat 4),.agg (bl bM)] S12=some (.int .i64 (.ofNat 0),S13):=by rw[hq];exact oR (qAW (qAd (qAe (by decide))) (qAW (qAd (qAe (by decide))) (qAW (qAd (qAe (by decide))) (qAW (qAd (qAe (by decide))) oL))))
 have h15:q 19 [.ptr (some (d,0)),.int .i64 (.ofNat 3),.agg (bl [])] S14=some (.int .i64 (.ofNat 0),S15):=by rw[hq];exact oR (qAW (qAd (qAe (by decide))) (qAW (qAd (qAe (by decide))) (qAW (qAd (qAe (by decide))) (qAW (qAd (qAe (by decide))) (qAW (qAd (qAe (by decide))) oL)))))
 have h19:q 19 [.ptr (some (d,0)),.int .i64 (.ofNat 2),.agg (bl bK)] S18=some (.int .i64 (.ofNat 0),S19):=by rw[hq];exact oR (qAW (qAd (qAe (by decide))) (qAW (qAd (qAe (by decide))) (qAW (qAd (qAe (by decide))) (qAW (qAd (qAe (by decide))) (qAW (qAd (qAe (by decide))) (qAW (qAd (qAe (by decide))) oL))))))
 have h24:q 19 [.ptr (some (d,0)),.int .i64 (.ofNat 1),.agg (bl [])] S23=some (.int .i64 (.ofNat 0),S24):=by rw[hq];exact oR (qAW (qAd (qAe (by decide))) (qAW (qAd (qAe (by decide))) (qAW (qAd (qAe (by decide))) (qAW (qAd (qAe (by decide))) (qAW (qAd (qAe (by decide))) (qAW (qAd (qAe (by decide))) (qAW (qAd (qAe (by decide))) oL)))))))
 have h25:q 19 [.ptr (some (d,0)),.int .i64 (.ofNat 0),.agg (bl bS)] S24=some (.int .i64 (.ofNat 0),S25):=by rw[hq];exact oR (qAW (qAd (qAe (by decide))) (qAW (qAd (qAe (by decide))) (qAW (qAd (qAe (by decide))) (qAW (qAd (qAe (by decide))) (qAW (qAd (qAe (by decide))) (qAW (qAd (qAe (by decide))) (qAW (qAd (qAe (by decide))) (qAW (qAd (qAe (by decide))) oL))))))))
 have h12:q 40 [.ptr (some (d,0))] S11=some (.int .i64 (.ofNat 0),S12):=by rw[hq];exact oR (oR (oR (oR (oR (oR (oR (oR (oR (oR oL)))))))))
 have h14:q 40 [.ptr (some (d,0))] S13=some (.int .i64 (.ofNat 0),S14):=by rw[hq];exact oR (oR (oR (oR (oR (oR (oR (oR (oR (oR (qAW (qGQ ne1) oL))))))))))
 have h20:q 40 [.ptr (some (d,0))] S19=some (.int .i64 (.ofNat 0),S20):=by rw[hq];exact oR (oR (oR (oR (oR (oR (oR (oR (oR (oR (qAW (qGQ (neN (by omega))) (qAW (qGQ (neN (by omega))) oL)))))))))))
 have h26:q 40 [.ptr (some (d,0))] S25=some (.int .i64 (.ofNat 0),S26):=by rw[hq];exact oR (oR (oR (oR (oR (oR (oR (oR (oR (oR (qAW (qGQ (neN (by omega))) (qAW (qGQ (neN (by omega))) (qAW (qGQ (neN (by omega))) oL))))))))))))
 have hblk:∀{Y:ASt} {c:Nat},DV S.next S d l m (9+k) Y c→c<1000000→q 73 [.ptr (some (d,0))] Y=some (.int .i64 (.ofNat (9+k)),Y):=fun h hc=>by rw[hq];exact oR (oR (oR (oR (oR (oR (oR (oR (oR (oR (oR (oR (oR (oR (qAo (q0I h hc)))))))))))))))
 have hmay:∀Y,q 76 [qGJ 4 false 7 0 0 0 0] Y=some (.bool true,Y):=fun Y=>by rw[hq];exact oR (oR (oR (oR (oR (oR (oR (oR (oR (oR (oR (oR (oR (oR (qAW (qNm (by decide)) (qAo (qAc ..))))))))))))))))
 have hmb:∀Y,q 62 [.int .u64 (.ofNat 0)] Y=some (.agg (bl bM),Y):=fun Y=>by rw[hq];exact oR (oR (oR (oR (oR (oR (oR (oR (oR (oR (oR (oR (oR (oR (qAW (qNm (by decide)) (qAW (qA8 (by decide)) (qAo (qAc ..)))))))))))))))))
 have hkb:∀Y,q 61 [qKg 0 0 0 (fun _=>0),.int .u64 (.ofNat 1)] Y=some (.tuple [.agg (bl bK),.int .i64 (.ofNat 0)],Y):=fun Y=>by rw[hq];exact oR (oR (oR (oR (oR (oR (oR (oR (oR (oR (oR (oR (oR (oR (qAW (qNm (by decide)) (qAW (qA8 (by decide)) (qAW (qA8 (by decide)) (qAo (qAc ..))))))))))))))))))
 have hsb:∀Y,q 60 [qGJ 4 false 7 0 0 0 1] Y=some (.tuple [.agg (bl bS),.int .i64 (.ofNat 0)],Y):=fun Y=>by rw[hq];exact oR (oR (oR (oR (oR (oR (oR (oR (oR (oR (oR (oR (oR (oR (qAW (qNm (by decide)) (qAW (qA8 (by decide)) (qAW (qA8 (by decide)) (qAW (qA8 (by decide)) (qAc ..))))))))))))))))))
 have d4:DV S.next S d l m (9+k) S4 _:=⟨_,_,v4⟩;have dX:DV S.next S d l m (9+k) (S7.add (.cells [.clos 113 [.ptr (some (S1.next,0))],.clos 115 [.ptr (some (S5.next,0)),.ptr (some (S1.next,0))],.clos 116 [.ptr (some (S1.next,0))],.clos 118 [.ptr (some (S1.next,0)),.ptr (some (S2.next,0)),.ptr (some (S3.next,0))]] true)) _:=⟨_,_,vX⟩;have d12:DV S.next S d l m (9+k) S12 _:=⟨_,_,v12⟩;have d14:DV S.next S d l m (9+k) S14 _:=⟨_,_,v14⟩;have d23:DV S.next S d l m (9+k) S23 _:=⟨_,_,v23⟩;rw[eY7] at h8;refine⟨S26,d,l,m,la26,qAE.of_tm fm.qYd (qAG hok) (Eq.mp (vcFm q d k (S1.next) (S2.next) (S3.next) (S4.next) (S5.next) (S15.next) (S17.next) (S20.next) (S21.next) bM bK bS S S1 S2 S3 S4 S5 S6 S7 S8 S9 S10 S11 S12 S13 S14 S15 S16 S17 S18 S19 S20 S21 S22 S23 S24 S25 S26 (fun r=>r=(.ptr (some (d,0)),S26))) ?_),v26.mono (by omega),fun j hj=>?_⟩
 ·exact⟨q1C h1,q1F h2,addE (by omega),ca (hnew),(by rw[e2];rfl),(by rw[e3];rfl),(by rw[e4];rfl),o4.ld1 (i:=0) (cs:=[.ptr (some (d,0))]),ca (hblk d4 (by omega)),eqE (by omega),q1C h1,q1F h2,addE (by omega),eqE (by omega),ca (hblk d4 (by omega)),q1C h1,q1F h2,addE (by omega),neqE,o4.ld1 (i:=2) (cs:=[.int .i64 (.ofNat 4)]),o4.ldA (i:=1) (z:=4) (cs:=lnA),ca (hmay _),q1C h1,q1F h2,(by rw[e5];rfl),(by rw[e6];kernel_rfl),e7,oX.ld1 (i:=5) (cs:=[.clos 113 [.ptr (some (S1.next,0))],.clos 115 [.ptr (some (S5.next,0)),.ptr (some (S1.next,0))],.clos 116 [.ptr (some (S1.next,0))],.clos 118 [.ptr (some (S1.next,0)),.ptr (some (S2.next,0)),.ptr (some (S3.next,0))]]),oX.ld1 (i:=0) (cs:=[.ptr (some (d,0))]),ca (hblk dX (by omega)),eqE (by omega),ca (hblk dX (by omega)),subE (by omega) (by omega),gtrF (by omega),ca h8,ca h9,ca h10,ca h11,ca h12,o12.ld1 (i:=5) (cs:=[.clos 113 [.ptr (some (S1.next,0))],.clos 115 [.ptr (some (S5.next,0)),.ptr (some (S1.next,0))],.clos 116 [.ptr (some (S1.next,0))],.clos 118 [.ptr (some (S1.next,0)),.ptr (some (S2.next,0)),.ptr (some (S3.next,0))]]),o12.ld1 (i:=4) (cs:=[.ptr (some (S4.next,0))]),o12.ld1 (i:=0) (cs:=[.ptr (some (d,0))]),o12.ld1 (i:=3) (cs:=([.int .i64 (.ofNat k)]++[.int .u64 (.ofNat 0)])),gtrT (by omega),ca (hblk d12 (by omega)),eqE (by omega),ca (hblk d12 (by omega)),geqE (by omega),o12.ld1 (i:=3) (cs:=([.int .i64 (.ofNat k)]++[.int .u64 (.ofNat 0)])),ca (hmb _),ca h13,ca h14,o14.ld1 (i:=5) (cs:=[.clos 113 [.ptr (some (S1.next,0))],.clos 115 [.ptr (some (S5.next,0)),.ptr (some (S1.next,0))],.clos 116 [.ptr (some (S1.next,0))],.clos 118 [.ptr (some (S1.next,0)),.ptr (some (S2.next,0)),.ptr (some (S3.next,0))]]),o14.ld1 (i:=0) (cs:=[.ptr (some (d,0))]),ca (hblk d14 (by omega)),eqE (by omega),ca (hblk d14 (by omega)),subE (by omega) (by omega),geqE (by omega),ca h15,ca (hkb _),(by rw[e16];kernel_rfl),e17,o17.ldA (i:=6) (z:=256) (cs:=(bl bK)),(by rw[e18];rfl),o18.ldA (i:=7) (z:=256) (cs:=(bl bK)),ca h19,ca h20,o20.ld1 (i:=5) (cs:=[.clos 113 [.ptr (some (S1.next,0))],.clos 115 [.ptr (some (S5.next,0)),.ptr (some (S1.next,0))],.clos 116 [.ptr (some (S1.next,0))],.clos 118 [.ptr (some (S1.next,0)),.ptr (some (S2.next,0)),.ptr (some (S3.next,0))]]),o20.ld1 (i:=0) (cs:=[.ptr (some (d,0))]),o20.ldA (i:=1) (z:=4) (cs:=lnA),o20.ld1 (i:=2) (cs:=[.int .i64 (.ofNat 4)]),(by rw[e21];rfl),o21.ldA (i:=8) (z:=4) (cs:=lnA),ca (hsb _),(by rw[e22];kernel_rfl),e23,ca (hblk d23 (by omega)),eqE (by omega),ca (hblk d23 (by omega)),q2Z (by omega),ca h24,o24.ldA (i:=9) (z:=256) (cs:=(bl bS)),ca h25,ca h26,rfl⟩
 ·rw[b26 j (by omega),b25 j,b24 j,b20 j (by omega),b19 j,b15 j,b14 j (by omega),b13 j,b12 j (by omega),b11 j,b10 j,b9 j,b8 j]
  match j,hj with
  | 0,_=>rfl
  | 1,_=>rfl
  | 2,_=>rfl
  | 3,_=>rfl
  | 4,_=>rfl
  | 5,_=>rfl
  | 6,_=>rfl
  | 7,_=>rfl
  | 8,_=>rfl
  | j+9,h=>exact absurd h (by omega)
end stv
end Go.Proofs.YtiafochainjglaaGreatDoor.drp
