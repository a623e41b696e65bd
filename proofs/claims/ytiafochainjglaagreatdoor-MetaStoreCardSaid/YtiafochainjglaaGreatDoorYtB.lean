/-
  OWN WORK, A PART: an abstract machine for the program's text that the kernel can run, and the proof that it is sound: what it answers is what the program answers; contracts of functions by it. No condition.
-/
import Derived.Test.YtiafochainjglaaGreatDoorYtA
import Derived.Test.YtiafochainjglaaGreatDoorXtA
namespace Go.Proofs.YtiafochainjglaaGreatDoor.drp
open Go Go.Ax Go.Proofs
set_option linter.unusedVariables false
namespace stv
open oo cd cd2 cd3 cd4 cd5 cd9 pu atc atu
section
variable {q:CallT} {H:List Nat→Nat→Nat} {S:ASt} {d:Nat} {las:List (List Nat)} {es:List dsk.En} {x:Nat→Nat} {c:Bool}
theorem qYy {s:Int} (hS:Sums q H) (hD:Dsk S d las es) (hn:2≤las.length) (hs:qZA s (x 1) (x 2)=false) :
  qAE Tryz.prog 87 [.ptr (some (d,0)),.agg (sG s c x)] S (.tuple [.agg (sL (fun _=>0) false),.int .i64 (.ofNat 2)],S):=by
 obtain⟨S1,e1,o1⟩:=(Ov.nil hD.tidy).add (.cells (sG s c x) true);obtain⟨S2,e2,o2⟩:=o1.add (.cells (sL (fun _=>0) false) true);obtain⟨S3,e3,o3⟩:=o2.add (.cells (sL (fun _=>0) false++sL (fun _=>0) false) true);obtain⟨S4,e4,o4⟩:=o3.stA (E:=ESv) (t:=170) (i:=2) (k:=S2.next) (o:=0) (z:=14) (vs:=sL (sX H (nb las es 0)) (sC H (nb las es 0))++sL (sX H (nb las es 1)) (sC H (nb las es 1))) [] (sL (fun _=>0) false++sL (fun _=>0) false) [] (by kernel_rfl) (by kernel_rfl) rfl rfl rfl;obtain⟨S5,e5,o5⟩:=o4.stA (E:=ESv) (t:=29) (i:=1) (k:=S1.next) (o:=0) (z:=7) (vs:=sL (fun _=>0) false) [] (sL (fun _=>0) false) [] (by kernel_rfl) (by kernel_rfl) rfl rfl rfl;have w1:=qJ1 hS (hD.over o2) hn;have hm:=fun S=>(qVz s c x S).1;rw[hs] at hm;have hok:=orC_ok (qAJ w1) (qAi hm);refine exD Tryz.f87 c87 74 [4,5] qB3 (qAG hok) (qFG (qHV (qEP (fun v h=>qSv _ _ v h _)) (qCW ..))) (Eq.mp (vcVa _ d S.next S1.next S2.next s (nS H (nb las es)) c (sC H (nb las es 0)) (sC H (nb las es 1)) x (sX H (nb las es 0)) (sX H (nb las es 1)) S S1 S2 S3 S4 S5 (Left ESv Tryz.f87 74 S (.tuple [.agg (sL (fun _=>0) false),.int .i64 (.ofNat 2)])))
  ⟨by rw[e1];rfl,o1.al e2,ca oL,o2.al e3,e4,o4.ldA (i:=0) (z:=7) (cs:=sG s c x),ca (oR (qAc ..)),e5,?_⟩)
 exact Left.of (rs:=[.cell 4 29,.tmp 5]) o5 rfl (by kernel_rfl) rfl (qAb (x:=.ptr (some (S1.next,0))) (by kernel_rfl) (o5.ldA (i:=1) (z:=7) (o:=0) (k:=S1.next) (cs:=sL (fun _=>0) false)) (qAV (by kernel_rfl) qA9)) rfl
end
section
variable {q:CallT} {H:List Nat→Nat→Nat} {base d l m n cc:Nat} {S0 S:ASt} {las:List (List Nat)} {es:List dsk.En} {x:Nat→Nat} {c:Bool}
theorem qSn (hS:Sums q H) (hv:Dv base S0 S d l m n cc las es) (hcc:cc<100000) (hn:9≤n) (hsl:nS H (nb las es)=0) (hv5:sX H (nb las es 0) 5<1000000)
  (U:U6 (x 0) (x 1) (x 2) (x 3) (x 4) (sX H (nb las es 0) 5+1)) (hsm:qDa (x 0) (x 1) (x 2)=true) :
  ∃S' las',qAE Tryz.prog 87 [.ptr (some (d,0)),.agg (sL x c)] S (.tuple [.agg (sL (upd x 5 (sX H (nb las es 0) 5+1)) c),.int .i64 (.ofNat 0)],S')∧Dv base S0 S' d l m n (cc+1) las' []∧S.next≤S'.next∧(∀k,k<S.next→k≠l→k≠m→S'.h.get k=S.h.get k)∧∀j,j<n→nb las' [] j=if j=1 then blV (sB H (upd x 5 (sX H (nb las es 0) 5+1)) c) else nb las es j:=by
 obtain⟨v,ev⟩:∃v,v=sX H (nb las es 0) 5:=⟨_,rfl⟩;rw[←ev] at hv5 U ⊢;have hD:=hv.dsk (by omega);obtain⟨dl,ll,ml⟩:=Dv.lt hv;obtain⟨S1,e1,o1⟩:=(Ov.nil hD.tidy).add (.cells (sL x c) true);obtain⟨S2,e2,o2⟩:=o1.add (.cells (sL (fun _=>0) false) true);obtain⟨S3,e3,o3⟩:=o2.add (.cells (sL (fun _=>0) false++sL (fun _=>0) false) true);obtain⟨S4,e4,o4⟩:=o3.stA (E:=ESv) (t:=170) (i:=2) (k:=S2.next) (o:=0) (z:=14) (vs:=sL (sX H (nb las es 0)) (sC H (nb las es 0))++sL (sX H (nb las es 1)) (sC H (nb las es 1))) [] (sL (fun _=>0) false++sL (fun _=>0) false) [] (by kernel_rfl) (by kernel_rfl) rfl rfl rfl;obtain⟨S5,e5,o5⟩:=o4.st1 (E:=ESv) (t:=24) (i:=0) (k:=S.next) (o:=6) (v:=.int .u64 (.ofNat 1)) (sL x c) (by kernel_rfl);obtain⟨S6,e6,o6⟩:=o5.st1 (E:=ESv) (t:=24) (i:=0) (k:=S.next) (o:=6) (v:=.int .u64 (.ofNat (v+1))) ((sL x c).set 6 (.int .u64 (.ofNat 1))) (by kernel_rfl);obtain⟨S7,e7,o7⟩:=o6.add (.cells (bl []) true);obtain⟨S8,e8,o8⟩:=o7.stA (E:=ESv) (t:=54) (i:=3) (k:=S6.next) (o:=0) (z:=256) (vs:=bl (sB H (upd x 5 (v+1)) c)) [] (bl []) [] (by kernel_rfl) (by kernel_rfl) rfl (qBI _) (qBI _);have n8:=o8.next;have hB:byL (sB H (upd x 5 (v+1)) c):=qGM hS.lt (qGL _ _ _ _ _ _ _ (by cases c<;>decide));have hv8:=hv.keep (S':=S8) o8.next o8.tidy o8.old;obtain⟨S9,es9,w9,hv9,n9,k9,b9⟩:=Dv.writeV (i:=1) (b:=sB H (upd x 5 (v+1)) c) hv8 (by omega) (by omega) hB;obtain⟨S10,las10,ck,w10,hv10,n10,k10,b10,_,_⟩:=Dv.flushV hv9 (by omega) (by omega);have w1:=qJ1 hS (hD.over o2) (by rw[hv.len];omega);rw[hsl] at w1;have hm:=fun S=>(my.qMm (c:=c) hsm S).1;have hblk:∀S,qAE Tryz.prog 60 [.agg (sL (upd x 5 (v+1)) c)] S (.tuple [.agg (bl (sB H (upd x 5 (v+1)) c)),.int .i64 (.ofNat 0)],S):=fun S=>(qI9 hS).yes (c:=c) S U hsm;have hok:=orC_ok (qAJ w1) (orC_ok (qAi hm) (orC_ok (qAi hblk) (orC_ok (qAJ w9) (qAJ w10))));have a1:S1.next<S8.next:=o8.lt (i:=1) (p:=(S1.next,.cells (sL (fun _=>0) false) true)) (by kernel_rfl);have s1n:S.next≤S1.next:=o1.next;have a0:S.next<S8.next:=o8.lt (i:=0) (p:=(S.next,.cells (sL (upd x 5 (v+1)) c) true)) (by kernel_rfl);have g0:S10.h.get S.next=some (.cells (sL (upd x 5 (v+1)) c) true):=by
  rw[k10 S.next (by omega) (by omega) (by omega),k9 S.next (by omega) (by omega)];exact (o8.loc 0 (S.next,.cells (sL (upd x 5 (v+1)) c) true) (by kernel_rfl)).2
 have g1:S10.h.get S1.next=some (.cells (sL (fun _=>0) false) true):=by
  rw[k10 S1.next (by omega) (by omega) (by omega),k9 S1.next (by omega) (by omega)];exact (o8.loc 1 (S1.next,.cells (sL (fun _=>0) false) true) (by kernel_rfl)).2
 obtain⟨S11,e11⟩:∃Y,Y=S10.put S1.next (.cells (sL (upd x 5 (v+1)) c) true):=⟨_,rfl⟩;have t11:Tidy S11:=by rw[e11];exact hv10.tidy.put (hv10.tidy.lt g1)
 have g11:S11.h.get S1.next=some (.cells (sL (upd x 5 (v+1)) c) true):=by rw[e11];exact qAl
 have k11:∀i,i≠S1.next→S11.h.get i=S10.h.get i:=fun i hi=>by rw[e11,qA3 hi]
 have n11:S11.next=S10.next:=by rw[e11];rfl
 refine⟨S11,las10,?_,Dv.end_ hv hv10 (by omega) (k11 l (by omega)) (k11 m (by omega)) (fun i hi hl hm=>?_) t11 (by omega),by omega,fun i hi hl hm=>?_,fun j hj=>?_⟩
 ·refine qAE.of_exR qB3 (qAG hok) (fn:=Tryz.f87) (c:=c87) (by kernel_rfl) (by kernel_rfl) (by kernel_rfl) (N:=74) (by kernel_rfl) (by rfl) (kf:=[4,5]) (by kernel_rfl) (Q:=fun z=>z=(.ret,xFr [(4,.ptr (some (S1.next,0))),(5,.int .i64 (.ofNat 0))] 74,S11)) (Eq.mp (vcVc _ d S.next S1.next S2.next S6.next v c (sC H (nb las es 0)) (sC H (nb las es 1)) x (sX H (nb las es 0)) (sX H (nb las es 1)) (sB H (upd x 5 (v+1)) c) S S1 S2 S3 S4 S5 S6 S7 S8 S9 S10 S11 (fun z=>z=(.ret,xFr [(4,.ptr (some (S1.next,0))),(5,.int .i64 (.ofNat 0))] 74,S11)))
   ⟨by rw[e1];rfl,o1.al e2,ca oL,o2.al e3,e4,o4.ldA (i:=0) (z:=7) (cs:=sL x c),ca (oR (qAo (qAc ..))),e5,geT (by decide),qAF (by kernel_rfl),?_,qKk (by omega),e6,o6.ld1 (i:=0) (cs:=sL (upd x 5 (v+1)) c),gF (by omega),o6.ldA (i:=0) (z:=7) (cs:=sL (upd x 5 (v+1)) c),ca (oR (qAW (qA8 (by decide)) (qAo (qAc ..)))),o6.al e7,e8,eT rfl,o8.ldA (i:=3) (z:=256) (cs:=bl (sB H (upd x 5 (v+1)) c)) (by kernel_rfl) (by kernel_rfl) qBx,ca (oR (qAW (qA8 (by decide)) (qAW (qA8 (by decide)) oL))),ca (oR (qAW (qA8 (by decide)) (qAW (qA8 (by decide)) (oR qA6)))),qAp (z:=7) (by kernel_rfl) g0 (by kernel_rfl),?_,rfl⟩) (fun e F Z hz=>?_)
  ·rw[ev];exact o5.ld1 (i:=2) (cs:=sL (sX H (nb las es 0)) (sC H (nb las es 0))++sL (sX H (nb las es 1)) (sC H (nb las es 1)))
  ·rw[e11];exact qAz (qCJ (B:=sL (fun _=>0) false) (by kernel_rfl) rfl rfl g1)
  ·cases hz;exact⟨.inr rfl,rfl,qBY (rs:=[.cell 4 29,.tmp 5]) (by kernel_rfl) rfl (qAb (x:=.ptr (some (S1.next,0))) (by kernel_rfl) (qAp (z:=7) (by kernel_rfl) g11 (by kernel_rfl)) (qAV (by kernel_rfl) qA9)) rfl⟩
 ·rw[k11 i (by omega),k10 i (by omega) hl hm,k9 i (by omega) hm,o8.old i hi]
 ·rw[k11 i (by omega),k10 i (by omega) hl hm,k9 i (by omega) hm,o8.old i hi]
 ·rw[b10 j hj,b9 j]
theorem qSm (hS:Sums q H) (hv:Dv base S0 S d l m n cc las es) (hcc:cc<100000) (hn:9≤n) (hsl:nS H (nb las es)=1) (hv5:sX H (nb las es 1) 5<1000000)
  (U:U6 (x 0) (x 1) (x 2) (x 3) (x 4) (sX H (nb las es 1) 5+1)) (hsm:qDa (x 0) (x 1) (x 2)=true) :
  ∃S' las',qAE Tryz.prog 87 [.ptr (some (d,0)),.agg (sL x c)] S (.tuple [.agg (sL (upd x 5 (sX H (nb las es 1) 5+1)) c),.int .i64 (.ofNat 0)],S')∧Dv base S0 S' d l m n (cc+1) las' []∧S.next≤S'.next∧(∀k,k<S.next→k≠l→k≠m→S'.h.get k=S.h.get k)∧∀j,j<n→nb las' [] j=if j=0 then blV (sB H (upd x 5 (sX H (nb las es 1) 5+1)) c) else nb las es j:=by
 obtain⟨v,ev⟩:∃v,v=sX H (nb las es 1) 5:=⟨_,rfl⟩;rw[←ev] at hv5 U ⊢;have hD:=hv.dsk (by omega);obtain⟨dl,ll,ml⟩:=Dv.lt hv;obtain⟨S1,e1,o1⟩:=(Ov.nil hD.tidy).add (.cells (sL x c) true);obtain⟨S2,e2,o2⟩:=o1.add (.cells (sL (fun _=>0) false) true);obtain⟨S3,e3,o3⟩:=o2.add (.cells (sL (fun _=>0) false++sL (fun _=>0) false) true);obtain⟨S4,e4,o4⟩:=o3.stA (E:=ESv) (t:=170) (i:=2) (k:=S2.next) (o:=0) (z:=14) (vs:=sL (sX H (nb las es 0)) (sC H (nb las es 0))++sL (sX H (nb las es 1)) (sC H (nb las es 1))) [] (sL (fun _=>0) false++sL (fun _=>0) false) [] (by kernel_rfl) (by kernel_rfl) rfl rfl rfl;obtain⟨S5,e5,o5⟩:=o4.st1 (E:=ESv) (t:=24) (i:=0) (k:=S.next) (o:=6) (v:=.int .u64 (.ofNat 1)) (sL x c) (by kernel_rfl);obtain⟨S6,e6,o6⟩:=o5.st1 (E:=ESv) (t:=24) (i:=0) (k:=S.next) (o:=6) (v:=.int .u64 (.ofNat (v+1))) ((sL x c).set 6 (.int .u64 (.ofNat 1))) (by kernel_rfl);obtain⟨S7,e7,o7⟩:=o6.add (.cells (bl []) true);obtain⟨S8,e8,o8⟩:=o7.stA (E:=ESv) (t:=54) (i:=3) (k:=S6.next) (o:=0) (z:=256) (vs:=bl (sB H (upd x 5 (v+1)) c)) [] (bl []) [] (by kernel_rfl) (by kernel_rfl) rfl (qBI _) (qBI _);have n8:=o8.next;have hB:byL (sB H (upd x 5 (v+1)) c):=qGM hS.lt (qGL _ _ _ _ _ _ _ (by cases c<;>decide));have hv8:=hv.keep (S':=S8) o8.next o8.tidy o8.old;obtain⟨S9,es9,w9,hv9,n9,k9,b9⟩:=Dv.writeV (i:=0) (b:=sB H (upd x 5 (v+1)) c) hv8 (by omega) (by omega) hB;obtain⟨S10,las10,ck,w10,hv10,n10,k10,b10,_,_⟩:=Dv.flushV hv9 (by omega) (by omega);have w1:=qJ1 hS (hD.over o2) (by rw[hv.len];omega);rw[hsl] at w1;have hm:=fun S=>(my.qMm (c:=c) hsm S).1;have hblk:∀S,qAE Tryz.prog 60 [.agg (sL (upd x 5 (v+1)) c)] S (.tuple [.agg (bl (sB H (upd x 5 (v+1)) c)),.int .i64 (.ofNat 0)],S):=fun S=>(qI9 hS).yes (c:=c) S U hsm;have hok:=orC_ok (qAJ w1) (orC_ok (qAi hm) (orC_ok (qAi hblk) (orC_ok (qAJ w9) (qAJ w10))));have a1:S1.next<S8.next:=o8.lt (i:=1) (p:=(S1.next,.cells (sL (fun _=>0) false) true)) (by kernel_rfl);have s1n:S.next≤S1.next:=o1.next;have a0:S.next<S8.next:=o8.lt (i:=0) (p:=(S.next,.cells (sL (upd x 5 (v+1)) c) true)) (by kernel_rfl);have g0:S10.h.get S.next=some (.cells (sL (upd x 5 (v+1)) c) true):=by
  rw[k10 S.next (by omega) (by omega) (by omega),k9 S.next (by omega) (by omega)];exact (o8.loc 0 (S.next,.cells (sL (upd x 5 (v+1)) c) true) (by kernel_rfl)).2
 have g1:S10.h.get S1.next=some (.cells (sL (fun _=>0) false) true):=by
  rw[k10 S1.next (by omega) (by omega) (by omega),k9 S1.next (by omega) (by omega)];exact (o8.loc 1 (S1.next,.cells (sL (fun _=>0) false) true) (by kernel_rfl)).2
 obtain⟨S11,e11⟩:∃Y,Y=S10.put S1.next (.cells (sL (upd x 5 (v+1)) c) true):=⟨_,rfl⟩;have t11:Tidy S11:=by rw[e11];exact hv10.tidy.put (hv10.tidy.lt g1)
 have g11:S11.h.get S1.next=some (.cells (sL (upd x 5 (v+1)) c) true):=by rw[e11];exact qAl
 have k11:∀i,i≠S1.next→S11.h.get i=S10.h.get i:=fun i hi=>by rw[e11,qA3 hi]
 have n11:S11.next=S10.next:=by rw[e11];rfl
 refine⟨S11,las10,?_,Dv.end_ hv hv10 (by omega) (k11 l (by omega)) (k11 m (by omega)) (fun i hi hl hm=>?_) t11 (by omega),by omega,fun i hi hl hm=>?_,fun j hj=>?_⟩
 ·refine qAE.of_exR qB3 (qAG hok) (fn:=Tryz.f87) (c:=c87) (by kernel_rfl) (by kernel_rfl) (by kernel_rfl) (N:=74) (by kernel_rfl) (by rfl) (kf:=[4,5]) (by kernel_rfl) (Q:=fun z=>z=(.ret,xFr [(4,.ptr (some (S1.next,0))),(5,.int .i64 (.ofNat 0))] 74,S11)) (Eq.mp (vcVd _ d S.next S1.next S2.next S6.next v c (sC H (nb las es 0)) (sC H (nb las es 1)) x (sX H (nb las es 0)) (sX H (nb las es 1)) (sB H (upd x 5 (v+1)) c) S S1 S2 S3 S4 S5 S6 S7 S8 S9 S10 S11 (fun z=>z=(.ret,xFr [(4,.ptr (some (S1.next,0))),(5,.int .i64 (.ofNat 0))] 74,S11)))
   ⟨by rw[e1];rfl,o1.al e2,ca oL,o2.al e3,e4,o4.ldA (i:=0) (z:=7) (cs:=sL x c),ca (oR (qAo (qAc ..))),e5,geT (by decide),qAF (by kernel_rfl),?_,qKk (by omega),e6,o6.ld1 (i:=0) (cs:=sL (upd x 5 (v+1)) c),gF (by omega),o6.ldA (i:=0) (z:=7) (cs:=sL (upd x 5 (v+1)) c),ca (oR (qAW (qA8 (by decide)) (qAo (qAc ..)))),o6.al e7,e8,eF (by decide),o8.ldA (i:=3) (z:=256) (cs:=bl (sB H (upd x 5 (v+1)) c)) (by kernel_rfl) (by kernel_rfl) qBx,ca (oR (qAW (qA8 (by decide)) (qAW (qA8 (by decide)) oL))),ca (oR (qAW (qA8 (by decide)) (qAW (qA8 (by decide)) (oR qA6)))),qAp (z:=7) (by kernel_rfl) g0 (by kernel_rfl),?_,rfl⟩) (fun e F Z hz=>?_)
  ·rw[ev];exact o5.ld1 (i:=2) (cs:=sL (sX H (nb las es 0)) (sC H (nb las es 0))++sL (sX H (nb las es 1)) (sC H (nb las es 1)))
  ·rw[e11];exact qAz (qCJ (B:=sL (fun _=>0) false) (by kernel_rfl) rfl rfl g1)
  ·cases hz;exact⟨.inr rfl,rfl,qBY (rs:=[.cell 4 29,.tmp 5]) (by kernel_rfl) rfl (qAb (x:=.ptr (some (S1.next,0))) (by kernel_rfl) (qAp (z:=7) (by kernel_rfl) g11 (by kernel_rfl)) (qAV (by kernel_rfl) qA9)) rfl⟩
 ·rw[k11 i (by omega),k10 i (by omega) hl hm,k9 i (by omega) hm,o8.old i hi]
 ·rw[k11 i (by omega),k10 i (by omega) hl hm,k9 i (by omega) hm,o8.old i hi]
 ·rw[b10 j hj,b9 j]
end
section
variable {base d l m n cc:Nat} {S0 S:ASt} {las:List (List Nat)} {es:List dsk.En}
theorem qPv {i:Nat} {B:List Nat} (hv:Dv base S0 S d l m n cc las es) (hcc:cc<100000) (hi:i<n) (hB:byL B) :
  ∃S' las',qAE Tryz.prog 147 [.ptr (some (d,0)),.int .i64 (.ofNat i),.agg (bl B)] S (.int .i64 (.ofNat 0),S')∧Dv base S0 S' d l m n (cc+1) las' []∧S.next≤S'.next∧(∀k,k<S.next→k≠l→k≠m→S'.h.get k=S.h.get k)∧∀j,j<n→nb las' [] j=if j=i then blV B else nb las es j:=by
 obtain⟨S1,e1,o1⟩:=(Ov.nil hv.tidy).add (.cells (bl B) true);have hv1:=hv.keep (S':=S1) o1.next o1.tidy o1.old;obtain⟨S2,es2,w2,hv2,n2,k2,b2⟩:=Dv.writeV (i:=i) (b:=B) hv1 (by omega) hi hB;obtain⟨S3,las3,ck,w3,hv3,n3,k3,b3,_,_⟩:=Dv.flushV hv2 (by omega) (by omega);have hok:=orC_ok (qAJ w2) (qAJ w3);have:=o1.next;exact⟨S3,las3,qAE.of_tm qB3 (qAG hok) (Eq.mp (vcRp _ d S.next i B S S1 S2 S3 (fun r=>r=(.int .i64 (.ofNat 0),S3))) ⟨by rw[e1];rfl,o1.ldA (i:=0) (z:=256) (cs:=bl B) (by kernel_rfl) (by kernel_rfl) qBx,ca oL,ca (oR qA6),rfl⟩),hv3,by omega,fun i hi hl hm=>by rw[k3 i (by omega) hl hm,k2 i (by omega) hm,o1.old i hi],fun j hj=>by rw[b3 j hj,b2 j]⟩
end
section
variable {q:CallT} {X:List Nat→Nat} {S:ASt} {d:Nat} {las:List (List Nat)} {es:List dsk.En} {Z:Nat→Int}
theorem qYu (hX:Shorts q X) (hD:Dsk S d las es) (hn:4≤las.length) (hn2:las.length<100000) (hs:cd6.qNO (cd6.tL Z)=false) :
  qAE Tryz.prog 91 [.ptr (some (d,0)),.int .i64 (.ofNat 2),.agg (cd6.tL Z)] S (.tuple [.int .u64 (.ofNat 0),.int .i64 (.ofNat 2)],S):=by
 obtain⟨S1,e1,o1⟩:=(Ov.nil hD.tidy).add (.cells (cd6.tL Z) true);obtain⟨S2,e2,o2⟩:=o1.add (.cells (rL (fun _=>0)++rL (fun _=>0)) true);obtain⟨S3,e3,o3⟩:=o2.add (.cells [.int .u64 (.ofNat 0),.int .u64 (.ofNat 0)] true);obtain⟨S4,e4,o4⟩:=o3.stA (E:=ESv) (t:=173) (i:=1) (k:=S1.next) (o:=0) (z:=38) (vs:=rL (rX X (nb las es 2))++rL (rX X (nb las es 3))) [] (rL (fun _=>0)++rL (fun _=>0)) [] (by kernel_rfl) (by kernel_rfl) rfl rfl rfl;obtain⟨S5,e5,o5⟩:=o4.stA (E:=ESv) (t:=25) (i:=2) (k:=S2.next) (o:=0) (z:=2) (vs:=[.int .u64 (.ofNat (rQ X (nb las es 2))),.int .u64 (.ofNat (rQ X (nb las es 3)))]) [] [.int .u64 (.ofNat 0),.int .u64 (.ofNat 0)] [] (by kernel_rfl) (by kernel_rfl) rfl rfl rfl;have w1:=qNt hX (hD.over o1) hn hn2;have hm:=fun S=>(qPa Z S).1;rw[hs] at hm;have hok:=orC_ok (qAJ w1) (qAi hm);refine exD Tryz.f91 c91 64 [6,7] qB3 (qAG hok) (qFG (qHV (qCW ..) (qCW ..))) (Eq.mp (q1Z _ d S.next S1.next S2.next (nK X (nb las es)) Z (rX X (nb las es 2)) (rX X (nb las es 3)) (rQ X (nb las es 2)) (rQ X (nb las es 3)) S S1 S2 S3 S4 S5 (Left ESv Tryz.f91 64 S (.tuple [.int .u64 (.ofNat 0),.int .i64 (.ofNat 2)])))
  ⟨by rw[e1];rfl,ca oL,o1.al e2,o2.al e3,e4,e5,o5.ldA (i:=0) (z:=19) (cs:=cd6.tL Z),ca (oR (qAc ..)),?_⟩)
 exact Left.of (rs:=[.tmp 6,.tmp 7]) o5 rfl (by kernel_rfl) rfl (qAV (by kernel_rfl) (qAV (by kernel_rfl) qA9)) rfl
end
section
variable {q:CallT} {X:List Nat→Nat} {base d l m n cc:Nat} {S0 S:ASt} {las:List (List Nat)} {es:List dsk.En} {y:Nat→Nat}
theorem qSk (hX:Shorts q X) (hv:Dv base S0 S d l m n cc las es) (hcc:cc<90000) (hn:9≤n) (hn2:n<1000) (hsl:nK X (nb las es)=0) (hv5:rQ X (nb las es 2)<1000000)
  (hy:∀i,y i<18446744073709551616) (h17:y 17<256) (h18:y 18<256) (hrm:qLu (y 0) (y 17) (y 18) (fun i=>y (i+1))=true) (hmay:∀S,qAE Tryz.prog 77 [.agg (rL y)] S (.bool true,S)) :
  ∃S' las',qAE Tryz.prog 91 [.ptr (some (d,0)),.int .i64 (.ofNat 2),.agg (rL y)] S (.tuple [.int .u64 (.ofNat (rQ X (nb las es 2)+1)),.int .i64 (.ofNat 0)],S')∧Dv base S0 S' d l m n (cc+1) las' []∧S.next≤S'.next∧(∀k,k<S.next→k≠l→k≠m→S'.h.get k=S.h.get k)∧∀j,j<n→nb las' [] j=if j=3 then blV (kB X (rQ X (nb las es 2)+1) y) else nb las es j:=by
 have hD:=hv.dsk (by omega);obtain⟨dl,ll,ml⟩:=Dv.lt hv;obtain⟨S1,e1,o1⟩:=(Ov.nil hD.tidy).add (.cells (rL y) true);obtain⟨S2,e2,o2⟩:=o1.add (.cells (rL (fun _=>0)++rL (fun _=>0)) true);obtain⟨S3,e3,o3⟩:=o2.add (.cells [.int .u64 (.ofNat 0),.int .u64 (.ofNat 0)] true);obtain⟨S4,e4,o4⟩:=o3.stA (E:=ESv) (t:=173) (i:=1) (k:=S1.next) (o:=0) (z:=38) (vs:=rL (rX X (nb las es 2))++rL (rX X (nb las es 3))) [] (rL (fun _=>0)++rL (fun _=>0)) [] (by kernel_rfl) (by kernel_rfl) rfl rfl rfl;obtain⟨S5,e5,o5⟩:=o4.stA (E:=ESv) (t:=25) (i:=2) (k:=S2.next) (o:=0) (z:=2) (vs:=[.int .u64 (.ofNat (rQ X (nb las es 2))),.int .u64 (.ofNat (rQ X (nb las es 3)))]) [] [.int .u64 (.ofNat 0),.int .u64 (.ofNat 0)] [] (by kernel_rfl) (by kernel_rfl) rfl rfl rfl;obtain⟨BB,eB⟩:∃BB,BB=kB X (rQ X (nb las es 2)+1) y:=⟨_,rfl⟩;obtain⟨S6,e6,o6⟩:=o5.add (.cells (bl []) true);obtain⟨S7,e7,o7⟩:=o6.stA (E:=ESv) (t:=54) (i:=3) (k:=S5.next) (o:=0) (z:=256) (vs:=bl BB) [] (bl []) [] (by kernel_rfl) (by kernel_rfl) rfl (qBI _) (qBI _);have hB:byL BB:=by rw[eB];exact qLv X _ _ _ _ _
 have hv7:=hv.keep (S':=S7) o7.next o7.tidy o7.old;obtain⟨S8,las8,w8,hv8,n8,k8,b8⟩:=qPv (i:=3) hv7 (by omega) (by omega) hB;have w1:=qNt hX (hD.over o1) (by rw[hv.len];omega) (by rw[hv.len];omega);rw[hsl] at w1;have hblk:∀S,qAE Tryz.prog 61 [.agg (rL y),.int .u64 (.ofNat (rQ X (nb las es 2)+1))] S (.tuple [.agg (bl BB),.int .i64 (.ofNat 0)],S):=fun S=>by rw[eB];exact qO5 hX ⟨by omega,hy 0,h17,h18,fun i=>hy (i+1)⟩ hrm S
 have hok:=orC_ok (qAJ w1) (orC_ok (qAi hmay) (orC_ok (qAi hblk) (qAJ w8)));have:=o7.next;refine⟨S8,las8,?_,hv8,by omega,fun i hi hl hm=>by rw[k8 i (by omega) hl hm,o7.old i hi],fun j hj=>by rw[b8 j hj,eB]⟩;refine qAE.of_exR qB3 (qAG hok) (fn:=Tryz.f91) (c:=c91) (by kernel_rfl) (by kernel_rfl) (by kernel_rfl) (N:=64) (by kernel_rfl) (by rfl) (kf:=[6,7]) (by kernel_rfl) (Q:=fun z=>z=(.ret,xFr [(6,.int .u64 (.ofNat (rQ X (nb las es 2)+1))),(7,.int .i64 (.ofNat 0))] 64,S8)) (Eq.mp (q1Y _ d S.next S1.next S2.next S5.next y (rX X (nb las es 2)) (rX X (nb las es 3)) (rQ X (nb las es 2)) (rQ X (nb las es 3)) BB S S1 S2 S3 S4 S5 S6 S7 S8 (fun z=>z=(.ret,xFr [(6,.int .u64 (.ofNat (rQ X (nb las es 2)+1))),(7,.int .i64 (.ofNat 0))] 64,S8)))
   ⟨by rw[e1];rfl,ca oL,o1.al e2,o2.al e3,e4,e5,o5.ldA (i:=0) (z:=19) (cs:=rL y),ca (oR (qAo (qAc ..))),geT (by decide),o5.ld1 (i:=2) (cs:=[.int .u64 (.ofNat (rQ X (nb las es 2))),.int .u64 (.ofNat (rQ X (nb las es 3)))]),qKk (by omega),qDt (by omega),qW6 (by omega),gF (by omega),o5.ldA (i:=0) (z:=19) (cs:=rL y),ca (oR (qAW (qA8 (by decide)) (qAo (qAc ..)))),o5.al e6,e7,o7.ldA (i:=3) (z:=256) (cs:=bl BB) (by kernel_rfl) (by kernel_rfl) qBx,ca (oR (qAW (qA8 (by decide)) (qAW (qA8 (by decide)) qA6))),rfl⟩) (fun e F Z hz=>?_)
 cases hz;exact⟨.inr rfl,rfl,qBY (rs:=[.tmp 6,.tmp 7]) (by kernel_rfl) rfl (qAV (by kernel_rfl) (qAV (by kernel_rfl) qA9)) rfl⟩
theorem qSj (hX:Shorts q X) (hv:Dv base S0 S d l m n cc las es) (hcc:cc<90000) (hn:9≤n) (hn2:n<1000) (hsl:nK X (nb las es)=1) (hv5:rQ X (nb las es 3)<1000000)
  (hy:∀i,y i<18446744073709551616) (h17:y 17<256) (h18:y 18<256) (hrm:qLu (y 0) (y 17) (y 18) (fun i=>y (i+1))=true) (hmay:∀S,qAE Tryz.prog 77 [.agg (rL y)] S (.bool true,S)) :
  ∃S' las',qAE Tryz.prog 91 [.ptr (some (d,0)),.int .i64 (.ofNat 2),.agg (rL y)] S (.tuple [.int .u64 (.ofNat (rQ X (nb las es 3)+1)),.int .i64 (.ofNat 0)],S')∧Dv base S0 S' d l m n (cc+1) las' []∧S.next≤S'.next∧(∀k,k<S.next→k≠l→k≠m→S'.h.get k=S.h.get k)∧∀j,j<n→nb las' [] j=if j=2 then blV (kB X (rQ X (nb las es 3)+1) y) else nb las es j:=by
 have hD:=hv.dsk (by omega);obtain⟨dl,ll,ml⟩:=Dv.lt hv;obtain⟨S1,e1,o1⟩:=(Ov.nil hD.tidy).add (.cells (rL y) true);obtain⟨S2,e2,o2⟩:=o1.add (.cells (rL (fun _=>0)++rL (fun _=>0)) true);obtain⟨S3,e3,o3⟩:=o2.add (.cells [.int .u64 (.ofNat 0),.int .u64 (.ofNat 0)] true);obtain⟨S4,e4,o4⟩:=o3.stA (E:=ESv) (t:=173) (i:=1) (k:=S1.next) (o:=0) (z:=38) (vs:=rL (rX X (nb las es 2))++rL (rX X (nb las es 3))) [] (rL (fun _=>0)++rL (fun _=>0)) [] (by kernel_rfl) (by kernel_rfl) rfl rfl rfl;obtain⟨S5,e5,o5⟩:=o4.stA (E:=ESv) (t:=25) (i:=2) (k:=S2.next) (o:=0) (z:=2) (vs:=[.int .u64 (.ofNat (rQ X (nb las es 2))),.int .u64 (.ofNat (rQ X (nb las es 3)))]) [] [.int .u64 (.ofNat 0),.int .u64 (.ofNat 0)] [] (by kernel_rfl) (by kernel_rfl) rfl rfl rfl;obtain⟨BB,eB⟩:∃BB,BB=kB X (rQ X (nb las es 3)+1) y:=⟨_,rfl⟩;obtain⟨S6,e6,o6⟩:=o5.add (.cells (bl []) true);obtain⟨S7,e7,o7⟩:=o6.stA (E:=ESv) (t:=54) (i:=3) (k:=S5.next) (o:=0) (z:=256) (vs:=bl BB) [] (bl []) [] (by kernel_rfl) (by kernel_rfl) rfl (qBI _) (qBI _);have hB:byL BB:=by rw[eB];exact qLv X _ _ _ _ _
 have hv7:=hv.keep (S':=S7) o7.next o7.tidy o7.old;obtain⟨S8,las8,w8,hv8,n8,k8,b8⟩:=qPv (i:=2) hv7 (by omega) (by omega) hB;have w1:=qNt hX (hD.over o1) (by rw[hv.len];omega) (by rw[hv.len];omega);rw[hsl] at w1;have hblk:∀S,qAE Tryz.prog 61 [.agg (rL y),.int .u64 (.ofNat (rQ X (nb las es 3)+1))] S (.tuple [.agg (bl BB),.int .i64 (.ofNat 0)],S):=fun S=>by rw[eB];exact qO5 hX ⟨by omega,hy 0,h17,h18,fun i=>hy (i+1)⟩ hrm S
 have hok:=orC_ok (qAJ w1) (orC_ok (qAi hmay) (orC_ok (qAi hblk) (qAJ w8)));have:=o7.next;refine⟨S8,las8,?_,hv8,by omega,fun i hi hl hm=>by rw[k8 i (by omega) hl hm,o7.old i hi],fun j hj=>by rw[b8 j hj,eB]⟩;refine qAE.of_exR qB3 (qAG hok) (fn:=Tryz.f91) (c:=c91) (by kernel_rfl) (by kernel_rfl) (by kernel_rfl) (N:=64) (by kernel_rfl) (by rfl) (kf:=[6,7]) (by kernel_rfl) (Q:=fun z=>z=(.ret,xFr [(6,.int .u64 (.ofNat (rQ X (nb las es 3)+1))),(7,.int .i64 (.ofNat 0))] 64,S8)) (Eq.mp (q1X _ d S.next S1.next S2.next S5.next y (rX X (nb las es 2)) (rX X (nb las es 3)) (rQ X (nb las es 2)) (rQ X (nb las es 3)) BB S S1 S2 S3 S4 S5 S6 S7 S8 (fun z=>z=(.ret,xFr [(6,.int .u64 (.ofNat (rQ X (nb las es 3)+1))),(7,.int .i64 (.ofNat 0))] 64,S8)))
   ⟨by rw[e1];rfl,ca oL,o1.al e2,o2.al e3,e4,e5,o5.ldA (i:=0) (z:=19) (cs:=rL y),ca (oR (qAo (qAc ..))),geT (by decide),o5.ld1 (i:=2) (cs:=[.int .u64 (.ofNat (rQ X (nb las es 2))),.int .u64 (.ofNat (rQ X (nb las es 3)))]),qKk (by omega),qDt (by omega),qW6 (by omega),gF (by omega),o5.ldA (i:=0) (z:=19) (cs:=rL y),ca (oR (qAW (qA8 (by decide)) (qAo (qAc ..)))),o5.al e6,e7,o7.ldA (i:=3) (z:=256) (cs:=bl BB) (by kernel_rfl) (by kernel_rfl) qBx,ca (oR (qAW (qA8 (by decide)) (qAW (qA8 (by decide)) qA6))),rfl⟩) (fun e F Z hz=>?_)
 cases hz;exact⟨.inr rfl,rfl,qBY (rs:=[.tmp 6,.tmp 7]) (by kernel_rfl) rfl (qAV (by kernel_rfl) (qAV (by kernel_rfl) qA9)) rfl⟩
end
theorem apV:qSZ ESv 69 69=some (1,8):=by kernel_rfl
theorem qRp {E:Env} (hE:qSZ E 69 69=some (1,8)) {S:ASt} {r:Nat} {x:AV} {A B C T:List Nat} (hg:S.h.get r=some (.cells (qBf (A++(B++C))) true)) (hn:qL7 x=some T.length) (hf:qAw S 1 T.length x=some (qBf T)) (hT:0<T.length) (hB:B.length=T.length) :
  qAU E .append [69,69] [.slice (some (r,0)) A.length (.rest 1),x] S=some (.slice (some (r,0)) (A.length+T.length) (.rest 1),S.put r (.cells (qBf (A++(T++C))) true)):=by
 obtain⟨ei,hz,hb,h⟩:=qFD (s:=.slice (some (r,0)) A.length (.rest 1)) hE hn hf;rw[h];have e1:qII S r (0+(A.length+T.length)*1) 1=true:=by
  unfold qII;rw[hg];show (bif Nat.ble (0+(A.length+T.length)*1) (qBf (A++(B++C))).length then Nat.blt 0 1 else false)=true;rw[qBy,qEC (by simp only[List.length_append];omega)];rfl
 have e2:qHH (qBf (A++(B++C))) (0+A.length*1) (qBf T)=some (qBf (A++(T++C))):=by
  rw[Nat.zero_add,Nat.mul_one,qDS,qDS,qDS,qDS];have:=qJ3 (A:=qBf A) (B:=qBf B) (C:=qBf C) (N:=qBf T) (by rw[qBy,qBy,hB]);rw[qBy] at this;exact this
 simp only[qBT,hz,qO6 (show T.length≠0 by omega),cond_false,show Nat.beq 1 1=true from rfl,cond_true,e1,hg,e2]
theorem qJ5 {S:ASt} {r:Nat} {L:List Nat} (hg:S.h.get r=some (.cells (qBf L) true)):qCi S r 0 1 L.length=L.length:=by
 unfold qCi;rw[hg];show Nat.max L.length (Nat.div (Nat.sub (qBf L).length 0) 1)=_;rw[qBy];show Nat.max L.length ((L.length - 0) / 1)=_;rw[Nat.sub_zero,Nat.div_one];exact Nat.max_self _
section
variable {S:ASt} {r i:Nat} {L:List Nat}
theorem qZD (hg:S.h.get r=some (.cells (qBf L) true)) (hi:i<L.length):still S (qBV ESv 69 (.slice (some (r,0)) L.length (.rest 1)) none (some (.int .i64 (.ofNat i))) none S)=some (.slice (some (r,0)) i (.rest 1),S):=by
 have e:qBV ESv 69 (.slice (some (r,0)) L.length (.rest 1)) none (some (.int .i64 (.ofNat i))) none S=(match qBK L.length (qCi S r 0 1 L.length) none (some i) none with
  | some (l,h,m)=>bif Nat.blt l (qCi S r 0 1 L.length) then some (.slice (some (r,0+l*1)) (h - l) (.rest 1)) else bif Nat.beq l 0 then some (.slice (some (r,0)) 0 (.rest 1)) else some .slice0
  | none=>none):=by kernel_rfl
 rw[qJ5 hg,cd8.aB_hi (by omega)] at e;refine qAF (e.trans ?_);show (bif Nat.blt 0 L.length then _ else _)=_;rw[qFa (by omega)];rfl
theorem qSs (hg:S.h.get r=some (.cells (qBf L) true)) (hi:i<L.length):∃A,still S (qBV ESv 69 (.slice (some (r,0)) L.length (.rest 1)) (some (.int .i64 (.ofNat i))) (some (.int .i64 (.ofNat (i+1)))) (some (.int .i64 (.ofNat L.length))) S)=some (A,S):=by
 have e:qBV ESv 69 (.slice (some (r,0)) L.length (.rest 1)) (some (.int .i64 (.ofNat i))) (some (.int .i64 (.ofNat (i+1)))) (some (.int .i64 (.ofNat L.length))) S=(match qBK L.length (qCi S r 0 1 L.length) (some i) (some (i+1)) (some L.length) with
  | some (l,h,m)=>some (.slice (some (r,bif Nat.beq m l then 0 else 0+l*1)) (h - l) (.known (m - l)))
  | none=>none):=by kernel_rfl
 have e2:qBK L.length L.length (some i) (some (i+1)) (some L.length)=some (i,i+1,L.length):=by
  show (bif Nat.ble L.length L.length then bif Nat.ble (i+1) L.length then bif Nat.ble i (i+1) then some (i,i+1,L.length) else none else none else none)=_;rw[qEC (Nat.le_refl _),qEC hi,qEC (Nat.le_succ i)];rfl
 rw[qJ5 hg,e2] at e;exact⟨_,qAF e⟩
theorem qWI (hg:S.h.get r=some (.cells (qBf L) true)) (hi:i+1<L.length):still S (qBV ESv 69 (.slice (some (r,0)) L.length (.rest 1)) (some (.int .i64 (.ofNat (i+1)))) none none S)=some (.slice (some (r,(i+1)*1)) (L.length - (i+1)) (.rest 1),S):=by
 have e:qBV ESv 69 (.slice (some (r,0)) L.length (.rest 1)) (some (.int .i64 (.ofNat (i+1)))) none none S=(match qBK L.length (qCi S r 0 1 L.length) (some (i+1)) none none with
  | some (l,h,m)=>bif Nat.blt l (qCi S r 0 1 L.length) then some (.slice (some (r,0+l*1)) (h - l) (.rest 1)) else bif Nat.beq l 0 then some (.slice (some (r,0)) 0 (.rest 1)) else some .slice0
  | none=>none):=by kernel_rfl
 rw[qJ5 hg,cd8.qYR (by omega)] at e;refine qAF (e.trans ?_);show (bif Nat.blt (i+1) L.length then some (AV.slice (some (r,0+(i+1)*1)) (L.length - (i+1)) (.rest 1)) else _)=_;rw[qFa hi,Nat.zero_add];rfl
theorem qZE (hg:S.h.get r=some (.cells (qBf L) true)) (hi:i+1=L.length):still S (qBV ESv 69 (.slice (some (r,0)) L.length (.rest 1)) (some (.int .i64 (.ofNat (i+1)))) none none S)=some (.slice0,S):=by
 have e:qBV ESv 69 (.slice (some (r,0)) L.length (.rest 1)) (some (.int .i64 (.ofNat (i+1)))) none none S=(match qBK L.length (qCi S r 0 1 L.length) (some (i+1)) none none with
  | some (l,h,m)=>bif Nat.blt l (qCi S r 0 1 L.length) then some (.slice (some (r,0+l*1)) (h - l) (.rest 1)) else bif Nat.beq l 0 then some (.slice (some (r,0)) 0 (.rest 1)) else some .slice0
  | none=>none):=by kernel_rfl
 rw[qJ5 hg,cd8.qYR (by omega)] at e;refine qAF (e.trans ?_);show (bif Nat.blt (i+1) L.length then _ else bif Nat.beq (i+1) 0 then _ else _)=_;have hb:Nat.blt (i+1) L.length=false:=by rw[qKL];exact decide_eq_false (by omega)
 rw[hb];rfl
theorem qWJ {n:Nat} (hg:S.h.get r=some (.cells (qBf L) true)) (hn:L.length=n+1):still S (qBV ESv 69 (.slice (some (r,0)) n (.rest 1)) (some (.int .i64 (.ofNat n))) (some (.int .i64 (.ofNat L.length))) none S)=some (.slice (some (r,n*1)) 1 (.rest 1),S):=by
 have e:qBV ESv 69 (.slice (some (r,0)) n (.rest 1)) (some (.int .i64 (.ofNat n))) (some (.int .i64 (.ofNat L.length))) none S=(match qBK n (qCi S r 0 1 n) (some n) (some L.length) none with
  | some (l,h,m)=>bif Nat.blt l (qCi S r 0 1 n) then some (.slice (some (r,0+l*1)) (h - l) (.rest 1)) else bif Nat.beq l 0 then some (.slice (some (r,0)) 0 (.rest 1)) else some .slice0
  | none=>none):=by kernel_rfl
 have hr:qCi S r 0 1 n=n+1:=by
  unfold qCi;rw[hg];show Nat.max n (((qBf L).length - 0) / 1)=_;rw[qBy,Nat.sub_zero,Nat.div_one,hn];exact Nat.max_eq_right (Nat.le_succ n)
 have e2:qBK n (n+1) (some n) (some L.length) none=some (n,L.length,n+1):=by
  show (bif Nat.ble L.length (n+1) then bif Nat.ble n L.length then some (n,L.length,n+1) else none else none)=_;rw[qEC (by omega),qEC (by omega)];rfl
 rw[hr,e2] at e;refine qAF (e.trans ?_);show (bif Nat.blt n (n+1) then some (AV.slice (some (r,0+n*1)) (L.length - n) (.rest 1)) else _)=_;rw[qFa (Nat.lt_succ_self n),Nat.zero_add,show L.length - n=1 by omega];rfl
theorem qTq {A:List Nat} {a:Nat} (hg:S.h.get r=some (.cells (qBf (A++[a])) true)):qAU ESv .clear [69] [.slice (some (r,A.length*1)) 1 (.rest 1)] S=some (.tuple [],S.put r (.cells (qBf (A++[0])) true)):=by
 have e:qAU ESv .clear [69] [.slice (some (r,A.length*1)) 1 (.rest 1)] S=(match (match S.h.get r with
   | some (.cells cs true)=>(match qHH cs (A.length*1) [.int .i64 (.ofNat 0)] with | some cs'=>some (S.put r (.cells cs' true)) | none=>none)
   | _=>none) with | some st'=>some (.tuple [],st') | none=>none):=by kernel_rfl
 have e2:qHH (qBf (A++[a])) (A.length*1) [.int .i64 (.ofNat 0)]=some (qBf (A++[0])):=by
  rw[Nat.mul_one,qDS,qDS];have:=qJ3 (A:=qBf A) (B:=qBf [a]) (C:=[]) (N:=[.int .i64 (.ofNat 0)]) rfl;rw[qBy,List.append_nil,List.append_nil] at this;exact this
 rw[hg] at e;show _=_;rw[e];show (match (match qHH (qBf (A++[a])) (A.length*1) [.int .i64 (.ofNat 0)] with | some cs'=>some (S.put r (.cells cs' true)) | none=>none) with | some st'=>some (AV.tuple [],st') | none=>none)=_;rw[e2]
theorem qVS (ht:Tidy S) (hg:S.h.get r=some (.cells (qBf L) true)) (hi:i<L.length) (hL:L.length<1000) :
  ∃S',qAE Tryz.prog 182 [.slice (some (r,0)) L.length (.rest 1),.int .i64 (.ofNat i),.int .i64 (.ofNat (i+1))] S (.slice (some (r,0)) (L.length - 1) (.rest 1),S')∧S'.h.get r=some (.cells (qBf (L.take i++L.drop (i+1)++[0])) true)∧(∀k,k≠r→S'.h.get k=S.h.get k)∧Tidy S'∧S.next≤S'.next:=by
 have hrS:=ht.lt hg;obtain⟨A0,hA0⟩:=qSs hg hi;have hlen:∀(Y:ASt) (n:Nat),qAU ESv .len [69] [.slice (some (r,0)) n (.rest 1)] Y=some (.int .i64 (.ofNat n),Y):=fun Y n=>by kernel_rfl
 have hgY:(ASt.mk S.h (S.next+8)).h.get r=some (.cells (qBf L) true):=hg;have htk:(L.take i).length=i:=by rw[List.length_take];omega
 have hdr:(L.drop (i+1)).length=L.length - (i+1):=List.length_drop
 -- where the tail goes
 obtain⟨S1,A2,a,h25,h26,g1,k1,t1,n1⟩:∃S1 A2 a,still (ASt.mk S.h (S.next+8)) (qBV ESv 69 (.slice (some (r,0)) L.length (.rest 1)) (some (.int .i64 (.ofNat (i+1)))) none none (ASt.mk S.h (S.next+8)))=some (A2,ASt.mk S.h (S.next+8))∧qAU ESv .append [69,69] [.slice (some (r,0)) i (.rest 1),A2] (ASt.mk S.h (S.next+8))=some (.slice (some (r,0)) (L.length - 1) (.rest 1),S1)∧S1.h.get r=some (.cells (qBf (L.take i++L.drop (i+1)++[a])) true)∧(∀k,k≠r→S1.h.get k=S.h.get k)∧Tidy S1∧S.next≤S1.next:=by
  rcases Nat.lt_or_ge (i+1) L.length with h | h
  ·have hL1:L=L.take i++((L.drop i).take (L.length - (i+1))++(L.drop i).drop (L.length - (i+1))):=by rw[List.take_append_drop,List.take_append_drop]
   have hlast:((L.drop i).drop (L.length - (i+1))).length=1:=by rw[List.length_drop,List.length_drop];omega
   obtain⟨a,ha⟩:∃a,(L.drop i).drop (L.length - (i+1))=[a]:=by
    match hq:(L.drop i).drop (L.length - (i+1)) with
    | []=>rw[hq] at hlast;cases hlast
    | [a]=>exact⟨a,rfl⟩
    | a::b::l=>rw[hq] at hlast;simp at hlast
   have hfst:qAw (ASt.mk S.h (S.next+8)) 1 (L.drop (i+1)).length (.slice (some (r,(i+1)*1)) (L.length - (i+1)) (.rest 1))=some (qBf (L.drop (i+1))):=by
    refine qCv (c:=.rest 1) hgY ?_;have e:qBf L=qBf (L.take (i+1))++(qBf (L.drop (i+1))++[]):=by rw[List.append_nil,←qDS,List.take_append_drop]
    rw[e];exact qYq (by rw[qBy,List.length_take];omega) (by rw[qBy,Nat.mul_one])
   have hg2:(ASt.mk S.h (S.next+8)).h.get r=some (.cells (qBf (L.take i++((L.drop i).take (L.length - (i+1))++(L.drop i).drop (L.length - (i+1))))) true):=by rw[←hL1];exact hg
   have hap:=qRp apV hg2 (x:=.slice (some (r,(i+1)*1)) (L.length - (i+1)) (.rest 1)) (T:=L.drop (i+1)) (by rw[hdr];rfl) hfst (by rw[hdr];omega) (by rw[hdr,List.length_take,List.length_drop];omega);rw[htk,hdr,show i+(L.length - (i+1))=L.length - 1 by omega,ha] at hap;refine⟨_,_,a,qWI hgY h,hap,?_,fun k hk=>?_,?_,?_⟩
   ·rw[qAl,List.append_assoc]
   ·rw[qA3 hk]
   ·exact (ht.mk (Nat.le_add_right _ _)).put (by show r<S.next+8;omega)
   ·show S.next≤S.next+8;omega
  ·have hl:i+1=L.length:=by omega
   have hL1:L=L.take i++L.drop i:=(List.take_append_drop i L).symm;obtain⟨a,ha⟩:∃a,L.drop i=[a]:=by
    have hlast:(L.drop i).length=1:=by rw[List.length_drop];omega
    match hq:L.drop i with
    | []=>rw[hq] at hlast;cases hlast
    | [a]=>exact⟨a,rfl⟩
    | a::b::l=>rw[hq] at hlast;simp at hlast
   have hd:L.drop (i+1)=[]:=List.drop_eq_nil_of_le (by omega);refine⟨ASt.mk S.h (S.next+8),.slice0,a,qZE hgY hl,?_,?_,fun k _=>rfl,ht.mk (Nat.le_add_right _ _),by show S.next≤S.next+8;omega⟩
   ·rw[show L.length - 1=i by omega];kernel_rfl
   ·rw[hd,List.append_nil,←ha,←hL1];exact hg
 have hn2:(L.take i++L.drop (i+1)++[a]).length=(L.length - 1)+1:=by simp only[List.length_append,htk,hdr,List.length_singleton];omega
 have hl2:(L.take i++L.drop (i+1)).length=L.length - 1:=by simp only[List.length_append,htk,hdr];omega
 have hcl:=qTq g1;rw[hl2] at hcl;have h31:=qWJ g1 hn2;rw[hn2,show L.length - 1+1=L.length by omega] at h31;obtain⟨S2,e2⟩:∃Y,Y=S1.put r (.cells (qBf (L.take i++L.drop (i+1)++[0])) true):=⟨_,rfl⟩;rw[←e2] at hcl;refine⟨S2,?_,by rw[e2];exact qAl,fun k hk=>by rw[e2,qA3 hk,k1 k hk],by rw[e2];exact t1.put (by omega),by rw[e2];exact n1⟩;refine qAE.of_exR qB3 qAB (fn:=Tryz.f182) (c:=c182) (by kernel_rfl) (by kernel_rfl) (by kernel_rfl) (N:=33) (by kernel_rfl) (by rfl) (kf:=[6]) (by kernel_rfl) (Q:=fun z=>z=(.ret,xFr [(6,.slice (some (r,0)) (L.length - 1) (.rest 1))] 33,S2)) (Eq.mp (vcDe r L.length (L.length - 1) i (i+1) A0 (.slice (some (r,0)) i (.rest 1)) A2 (.slice (some (r,0)) (L.length - 1) (.rest 1)) (.slice (some (r,(L.length - 1)*1)) 1 (.rest 1)) S S1 S2 (fun z=>z=(.ret,xFr [(6,.slice (some (r,0)) (L.length - 1) (.rest 1))] 33,S2)))
  ⟨hlen _ _,hA0,eF (by omega),hlen _ _,qZD hgY hi,h25,h26,trivial,hlen _ _,h31,hcl,rfl⟩) (fun e F Z hz=>?_)
 cases hz;exact⟨.inr rfl,rfl,qBY (rs:=[.tmp 6]) (by kernel_rfl) rfl (qAV (by kernel_rfl) qA9) rfl⟩
end
theorem Trip.turnsR {P:Program} {kb:Nat} {ro:Option Nat} {L:Code} {id n:Nat} {T:Nat→AFr×ASt} {F:AFr} {Z:ASt} (h:∀i,i<n→Trip P kb ro L (T i).1 (T i).2 fun r=>r=(.normal,(T (i+1)).1,(T (i+1)).2))
  (hx:Trip P kb ro L (T n).1 (T n).2 fun r=>r=(.ret,F,Z)):Trip P kb ro (.block id (.loop L)) (T 0).1 (T 0).2 fun r=>r=(.ret,F,Z):=by
 refine Trip.block (Trip.loop (fun m fr st=>∃i,i≤n∧m=n - i∧fr=(T i).1∧st=(T i).2) ?_ n ⟨0,Nat.zero_le _,rfl,rfl,rfl⟩);rintro m fr st ⟨i,hi,rfl,rfl,rfl⟩
 by_cases e:i<n
 ·refine (h i e).mono fun r hr=>?_;subst hr;exact⟨n - (i+1),_,_,by omega,Wk.refl _ _ _,i+1,e,rfl,rfl,rfl⟩
 ·have:i=n:=by omega
  subst this;refine hx.mono fun r hr=>?_;subst hr;rfl
theorem Trip.thenR {P:Program} {kb:Nat} {ro:Option Nat} {a b:Code} {fr F:AFr} {st Z:ASt} (h:Trip P kb ro a fr st fun r=>r=(.ret,F,Z)):Trip P kb ro (.seq a b) fr st fun r=>r=(.ret,F,Z) :=
 Trip.seq h (fun F Y hr=>by cases hr) (fun e F Y he hr=>hr)
theorem qNe (L:List Nat) (e:Nat):∀m,m≤L.length→∃n,n≤m∧(∀i,i<n→L.getD i 0≠e)∧(n=m∨L.getD n 0=e)
 | 0,_=>⟨0,Nat.le_refl _,fun i h=>absurd h (Nat.not_lt_zero i),.inl rfl⟩
 | m+1,hm=>by
  obtain⟨n,h1,h2,h3⟩:=qNe L e m (by omega);rcases h3 with rfl | h3
  ·by_cases h:L.getD n 0=e
   ·exact⟨n,by omega,h2,.inr h⟩
   ·refine⟨n+1,Nat.le_refl _,fun i hi=>?_,.inl rfl⟩;rcases Nat.lt_or_ge i n with q | q
    ·exact h2 i q
    ·obtain rfl:i=n:=by omega
     exact h
  ·exact⟨n,by omega,h2,.inr h3⟩
noncomputable def fI (r n e i:Nat):AFr:=xFr [(0,.slice (some (r,0)) n (.rest 1)),(1,.int .i64 (.ofNat e)),(7,.int .i64 (.ofNat n)),(8,.int .i64 (.ofNat i))] 19
theorem qZG:qOl=.seq (qL5 0 qOl) (.seq (.seq (seqL (seqL (qAg 0 qOl))) (.block 0 (.loop qYU))) (qAg 1 qOl)):=by kernel_rfl
theorem vcI0 (r n e:Nat) (S:ASt) (Q:qz2):Q (.normal,xFr [(0,.slice (some (r,0)) n (.rest 1)),(1,.int .i64 (.ofNat e))] 19,S)=((TM ESv qAa [] fl0 60).ex fl0 none (qL5 0 qOl) {m:=qAM [.slice (some (r,0)) n (.rest 1),.int .i64 (.ofNat e)] 0 .e,n:=19,defs:=[]} S).allY (fun r=>Q (qAx [0,1] r)) .nil:=by kernel_rfl
theorem q19 (r n e:Nat) (S:ASt) (Q:qz2):(qAU ESv .len [69] [.slice (some (r,0)) n (.rest 1)] S=some (.int .i64 (.ofNat n),S)∧Q (.normal,xFr [(0,.slice (some (r,0)) n (.rest 1)),(1,.int .i64 (.ofNat e)),(7,.int .i64 (.ofNat n)),(8,.int .i64 (.ofNat 0))] 19,S))=((TM ESv qAa [] fl0 60).ex ⟨[7],[],[],[]⟩ none (seqL (seqL (qAg 0 qOl))) (xFr [(0,.slice (some (r,0)) n (.rest 1)),(1,.int .i64 (.ofNat e))] 19) S).allY (fun r=>Q (qAx [0,1,7,8] r)) (.v (.int .i64 (.ofNat n),S) .nil):=by kernel_rfl
section
variable {S:ASt} {r e:Nat} {L:List Nat}
theorem qXB (ht:Tidy S) (hg:S.h.get r=some (.cells (qBf L) true)) (hL:L.length<1000) :
  ∃z:Int,qAE Tryz.prog 181 [.slice (some (r,0)) L.length (.rest 1),.int .i64 (.ofNat e)] S (.int .i64 z,S)∧((∃i:Nat,z=.ofNat i∧i<L.length∧L.getD i 0=e)∨(z=.negSucc 0∧e ∉ L)):=by
 obtain⟨n,h1,h2,h3⟩:=qNe L e L.length (Nat.le_refl _);have ix:∀i,i<L.length→still S (qA4 ESv 69 (.slice (some (r,0)) L.length (.rest 1)) (.int .i64 (.ofNat i)))=some (.ptr (some (r,i*1)),S):=fun i hi=>by
  have:=qDc (E:=ESv) (t:=69) (z:=1) (i:=r) (o:=0) (n:=L.length) (k:=i) (c:=.rest 1) (kd:=.i64) (st:=S) (by kernel_rfl) hi;rw[Nat.zero_add] at this;exact this
 have ld:∀i,i<L.length→qAQ ESv 3 (.ptr (some (r,i*1))) S=some (.int .i64 (.ofNat (L.getD i 0)),S):=fun i hi=>qAZ (by kernel_rfl) hg (qH5 hi);have hrnd:∀i,i<n→Trip Tryz.prog S.next none qYU (fI r L.length e i) S fun z=>z=(.normal,fI r L.length e (i+1),S):=fun i hi =>
  tR qAB [0,1,7,8] (Eq.mp (vcIb r L.length e i (L.getD i 0) S (fun z=>z=(.normal,fI r L.length e (i+1),S))) ⟨lT (by omega),ix i (by omega),ld i (by omega),eF (fun q=>h2 i hi q.symm),qDt (by omega),rfl⟩)
 have hbeg:Trip Tryz.prog S.next none (seqL (seqL (qAg 0 qOl))) (xFr [(0,.slice (some (r,0)) L.length (.rest 1)),(1,.int .i64 (.ofNat e))] 19) S fun z=>z=(.normal,fI r L.length e 0,S):=by
  exact tR qAB [0,1,7,8] (Eq.mp (q19 r L.length e S (fun z=>z=(.normal,fI r L.length e 0,S))) ⟨by kernel_rfl,rfl⟩)
 have h0:Trip Tryz.prog S.next none (qL5 0 qOl) {m:=qAM [.slice (some (r,0)) L.length (.rest 1),.int .i64 (.ofNat e)] 0 .e,n:=19,defs:=[]} S fun z=>z=(.normal,xFr [(0,.slice (some (r,0)) L.length (.rest 1)),(1,.int .i64 (.ofNat e))] 19,S) :=
  tR qAB [0,1] (Eq.mp (vcI0 r L.length e S (fun z=>z=(.normal,xFr [(0,.slice (some (r,0)) L.length (.rest 1)),(1,.int .i64 (.ofNat e))] 19,S))) rfl)
 have fin:∀z:Int,Trip Tryz.prog S.next none qOl {m:=qAM [.slice (some (r,0)) L.length (.rest 1),.int .i64 (.ofNat e)] 0 .e,n:=19,defs:=[]} S (fun q=>q=(.ret,xFr [(4,.int .i64 z)] 19,S))→qAE Tryz.prog 181 [.slice (some (r,0)) L.length (.rest 1),.int .i64 (.ofNat e)] S (.int .i64 z,S):=fun z h =>
  qAE.tripDrop qB3 (fn:=Tryz.f181) (c:=qOl) (by kernel_rfl) (by kernel_rfl) (by kernel_rfl) (N:=19) (by kernel_rfl) (qCW ..) (by simp[qCH]) (h.mono fun q hq=>by subst hq;exact⟨.inr rfl,rfl,qBY (rs:=[.tmp 4]) (by kernel_rfl) rfl (qAV (by kernel_rfl) qA9) rfl,fun _ _=>rfl⟩)
 by_cases hn:n<L.length∧L.getD n 0=e
 ·refine⟨.ofNat n,fin _ ?_,.inl ⟨n,rfl,hn.1,hn.2⟩⟩;rw[qZG];refine Trip.then h0 (Trip.thenR (Trip.then hbeg ?_));exact Trip.turnsR (P:=Tryz.prog) (kb:=S.next) (ro:=none) (L:=qYU) (id:=0) (n:=n) (T:=fun i=>(fI r L.length e i,S)) (F:=xFr [(4,.int .i64 (.ofNat n))] 19) (Z:=S) hrnd (tR qAB [4] (Eq.mp (vcIc r L.length e n (L.getD n 0) S (fun z=>z=(.ret,xFr [(4,.int .i64 (.ofNat n))] 19,S))) ⟨lT hn.1,ix n hn.1,ld n hn.1,eT hn.2.symm,rfl⟩))
 ·have hnl:n=L.length:=by
   rcases h3 with h3 | h3
   ·exact h3
   ·exact Nat.le_antisymm h1 (Nat.le_of_not_lt fun q=>hn ⟨q,h3⟩)
  subst hnl;refine⟨.negSucc 0,fin _ ?_,.inr ⟨rfl,fun hm=>?_⟩⟩
  ·rw[qZG];refine Trip.then h0 (Trip.then (F:=xFr [] 19) (Z:=S) (Trip.then hbeg ?_) (tR qAB [4] (Eq.mp (vcIe S (fun z=>z=(.ret,xFr [(4,.int .i64 (.negSucc 0))] 19,S))) rfl)));exact Trip.turns (P:=Tryz.prog) (kb:=S.next) (ro:=none) (L:=qYU) (id:=0) (n:=L.length) (T:=fun i=>(fI r L.length e i,S)) (F:=xFr [] 19) (Z:=S) hrnd (tR qAB [] (Eq.mp (vcId r L.length e L.length S (fun z=>z=(.exit 0,xFr [] 19,S))) ⟨lF (Nat.le_refl _),rfl⟩))
  ·obtain⟨i,hi,he⟩:=List.getElem_of_mem hm;exact h2 i hi (by rw[List.getD_eq_getElem?_getD,List.getElem?_eq_getElem hi];exact he)
end
section
variable {S:ASt} {base e lp d room nu:Nat} {L:List Nat} {P:AV}
theorem qLA (ht:Tidy S) (hP:qD9 base S P L) (hL:L.length<1000) :
  ∃z:Int,qAE Tryz.prog 181 [P,.int .i64 (.ofNat e)] S (.int .i64 z,S)∧((∃i:Nat,z=.ofNat i∧i<L.length∧L.getD i 0=e)∨(z=.negSucc 0∧e ∉ L)):=by
 rcases hP with⟨rfl,rfl⟩ | ⟨r,h0,rfl,h2,h3⟩
 ·exact⟨.negSucc 0,qAE.of_tm qB3 qAB (Eq.mp (vcIf e S (fun r=>r=(.int .i64 (.negSucc 0),S))) ⟨by kernel_rfl,lF (Nat.le_refl _),rfl⟩),.inr ⟨rfl,by simp⟩⟩
 ·exact qXB ht h3 hL
theorem qXJ (ht:Tidy S) (hl:S.h.get lp=some (qB7 d room nu P)) (hP:qD9 base S P L) (hL:L.length<1000):qAE Tryz.prog 145 [.ptr (some (lp,0)),.int .i64 (.ofNat e)] S (.bool (decide (e∈L)),S):=by
 obtain⟨z,h1,h2⟩:=qLA (e:=e) ht hP hL;have hg:still S (qAD ESv .geq 3 (.tmp 7) (.const (.int .i64 0)) (.int .i64 z) (.int .i64 (.ofNat 0)))=some (.bool (decide (e∈L)),S):=by
  rw[qKj];rcases h2 with⟨i,rfl,hi,he⟩ | ⟨rfl,he⟩
  ·have hm:e∈L:=by
    rw[←he,List.getD_eq_getElem?_getD,List.getElem?_eq_getElem hi];exact List.getElem_mem hi
   rw[decide_eq_true hm,decide_eq_false (show ¬Int.ofNat i<Int.ofNat 0 by simp only[Int.ofNat_eq_natCast];omega)];rfl
  ·rw[decide_eq_false he];rfl
 have h180:qAE Tryz.prog 180 [P,.int .i64 (.ofNat e)] S (.bool (decide (e∈L)),S):=qAE.of_tm qB3 (qAG (qAJ h1)) (Eq.mp (vcCh _ e z (decide (e∈L)) P S (fun r=>r=(.bool (decide (e∈L)),S))) ⟨ca qA6,hg,rfl⟩);exact qAE.of_tm qB3 (qAG (qAJ h180)) (Eq.mp (vcHs _ lp e (decide (e∈L)) P S (fun r=>r=(.bool (decide (e∈L)),S))) ⟨vg5 hl,ca qA6,rfl⟩)
theorem qTb (hl:S.h.get lp=some (qB7 d room nu P)) (hP:qD9 base S P L) (hr:L.length<room):qAE Tryz.prog 144 [.ptr (some (lp,0))] S (.tuple [.int .i64 (.ofNat 0),.bool false],S):=by
 have hlen:qAU ESv .len [69] [P] (ASt.mk S.h (S.next+15))=some (.int .i64 (.ofNat L.length),ASt.mk S.h (S.next+15)):=qD9.len (X:=ASt.mk S.h (S.next+15)) (hP:qD9 base (ASt.mk S.h (S.next+15)) P L);refine qAE.drop (S':=ASt.mk S.h (S.next+15)) (qAE.of_tm qB3 qAB (Eq.mp (vcFa lp d L.length room P S (fun r=>r=(.tuple [.int .i64 (.ofNat 0),.bool false],ASt.mk S.h (S.next+15)))) ⟨vg0 (S:=ASt.mk S.h (S.next+15)) hl,vg5 (S:=ASt.mk S.h (S.next+15)) hl,hlen,vg3 (S:=ASt.mk S.h (S.next+15)) hl,lT hr,trivial,rfl⟩)) (fun _ _=>rfl) (qFG (qHV (qCW ..) (qEL ..)))
theorem qTc (hl:S.h.get lp=some (qB7 d room nu P)) (hP:qD9 base S P L) (hr:room≤L.length) (h1:1≤room):∃f,qAE Tryz.prog 144 [.ptr (some (lp,0))] S (.tuple [.int .i64 (.ofNat f),.bool true],S):=by
 rcases hP with⟨rfl,rfl⟩ | ⟨r,h0,rfl,h2,h3⟩
 ·simp at hr;omega
 ·refine⟨L.getD 0 0,?_⟩;have ix:=qDc (E:=ESv) (t:=69) (z:=1) (i:=r) (o:=0) (n:=L.length) (k:=0) (c:=.rest 1) (kd:=.i64) (st:=ASt.mk S.h (S.next+15)) (by kernel_rfl) h0;have ld:qAQ ESv 3 (.ptr (some (r,0))) (ASt.mk S.h (S.next+15))=some (.int .i64 (.ofNat (L.getD 0 0)),ASt.mk S.h (S.next+15)):=qAZ (by kernel_rfl) (show (ASt.mk S.h (S.next+15)).h.get r=_ from h3) (qH5 h0);refine qAE.drop (S':=ASt.mk S.h (S.next+15)) (qAE.of_tm qB3 qAB (Eq.mp (vcFb lp d L.length room r (L.getD 0 0) S (fun z=>z=(.tuple [.int .i64 (.ofNat (L.getD 0 0)),.bool true],ASt.mk S.h (S.next+15)))) ⟨vg0 (S:=ASt.mk S.h (S.next+15)) hl,vg5 (S:=ASt.mk S.h (S.next+15)) hl,by kernel_rfl,vg3 (S:=ASt.mk S.h (S.next+15)) hl,lF hr,trivial,vg5 (S:=ASt.mk S.h (S.next+15)) hl,ix,ld,rfl⟩)) (fun _ _=>rfl) (qFG (qHV (qCW ..) (qEL ..)))
theorem qTr (ht:Tidy S) (hP:qD9 base S P L) (hn:L.length<1000) :
  ∃P2 S',qAE Tryz.prog 143 [P] S (P2,S')∧qD9 S.next S' P2 L∧Tidy S'∧S.next≤S'.next∧∀k,k<S.next→S'.h.get k=S.h.get k:=by
 rcases hP with⟨rfl,rfl⟩ | ⟨r,h0,rfl,h2,h3⟩
 ·exact⟨_,S,qAE.of_tm qB3 qAB (Eq.mp (q18 S (fun r=>r=(.slice none 0 (.known 0),S))) rfl),.inl ⟨rfl,rfl⟩,ht,Nat.le_refl _,fun _ _=>rfl⟩
 ·obtain⟨S2,e2⟩:∃Y,Y=(S.add (.cells [] true)).add (.cells (qBf L) true):=⟨_,rfl⟩;have hr:=ht.lt h3;have hf:qAw (S.add (.cells [] true)) 1 L.length (.slice (some (r,0)) L.length (.rest 1))=some (qBf L):=qCv (by rw[qAj (by omega)];exact h3) (by have:=qHX (X:=qBf L);rw[qBy] at this;rw[Nat.mul_one];exact this);have ap:qAU ESv .append [69,69] [.slice (some (S.next,0)) 0 (.known 0),.slice (some (r,0)) L.length (.rest 1)] (S.add (.cells [] true))=some (.slice (some (S.next+1,0)) L.length (.rest 1),S2):=by
   rw[e2];exact qD7 (k:=S.next) (o:=0) apV rfl hf qBM h0 (by omega) (by omega)
  refine⟨_,S2,qAE.of_tm qB3 qAB (Eq.mp (vcKr r L.length (.slice (some (S.next,0)) 0 (.known 0)) (.slice (some (S.next+1,0)) L.length (.rest 1)) S (S.add (.cells [] true)) S2 (fun r=>r=(.slice (some (S.next+1,0)) L.length (.rest 1),S2))) ⟨by kernel_rfl,ap,rfl⟩),.inr ⟨S.next+1,h0,rfl,by omega,by rw[e2];exact qBM (S:=S.add (.cells [] true))⟩,by rw[e2];exact ht.add.add,by rw[e2];show S.next≤S.next+1+1;omega,fun i hi=>?_⟩;rw[e2,qAj (by rw[qBe];omega),qAj (by omega)]
end
theorem w16 {m:Nat} (h:m<65536):qAH .u16 (.ofNat m)=.ofNat m:=by
 have e:qB5 (.ofNat m) (big .u16)=m:=Nat.mod_eq_of_lt h;unfold qAH;have hb:Nat.blt (qB5 (.ofNat m) (big .u16)) (half .u16)=true:=by rw[e];exact qFa h
 show (bif Nat.blt (qB5 (.ofNat m) (big .u16)) (half .u16) then Int.ofNat (qB5 (.ofNat m) (big .u16)) else _)=_;rw[hb,e];rfl
theorem qQO {E:Env} {Y:ASt} {b:Nat} {x y:Operand} {t:TypeId} {k2:IntKind} (hb:b<16):still Y (qAD E .shl t x y (.int .u16 (.ofNat 1)) (.int k2 (.ofNat b)))=some (.int .u16 (.ofNat (2 ^ b)),Y):=by
 have h:=qW8 (E:=E) (Y:=Y) (t:=t) (k:=.u16) (k2:=k2) (a:=1) (b:=b) (x:=x) (y:=y) (show b≤16 by omega);have h2:2 ^ b<65536:=Nat.pow_lt_pow_right (a:=2) (m:=b) (n:=16) (by decide) hb;rw[Nat.one_mul,w16 h2] at h;exact h
theorem qUl {E:Env} {Y:ASt} {a b:Nat} {x y:Operand} {t:TypeId} (ha:a<65536) (hb:b<65536):still Y (qAD E .or t x y (.int .u16 (.ofNat a)) (.int .u16 (.ofNat b)))=some (.int .u16 (.ofNat (Nat.lor a b)),Y):=by
 have e:qAD E .or t x y (.int .u16 (.ofNat a)) (.int .u16 (.ofNat b))=some (.int .u16 (qAH .u16 (.ofNat (Nat.lor (a % 65536) (b % 65536))))):=rfl;have h2:Nat.lor a b<65536:=Nat.or_lt_two_pow (n:=16) ha hb;rw[Nat.mod_eq_of_lt ha,Nat.mod_eq_of_lt hb,w16 h2] at e;exact qAF e
def qH1 (L:List Nat) (i:Nat):Nat:=qEE (L.take i).reverse
theorem qK4 {L:List Nat} {i:Nat} (h:i<L.length):qH1 L (i+1)=Nat.lor (qH1 L i) (2 ^ L.getD i 0):=by
 unfold qH1;rw[List.take_succ_eq_append_getElem h,List.reverse_append,List.getD_eq_getElem?_getD,List.getElem?_eq_getElem h];rfl
theorem qMt (L:List Nat):qH1 L L.length=qEE L:=by
 unfold qH1;rw[List.take_length];exact qJB fun i=>List.mem_reverse
theorem qPn {L:List Nat} (hL:∀e,e∈L→e<16) (i:Nat):qH1 L i<65536:=qKN fun e he=>hL e (List.mem_of_mem_take (List.mem_reverse.1 he))
noncomputable def fW (lp:Nat) (P:AV) (h:Nat):AFr:=xFr [(0,.ptr (some (lp,0))),(1,P),(5,.int .u16 (.ofNat h))] 72
noncomputable def fWi (lp:Nat) (P:AV) (h n i:Nat):AFr:=xFr [(0,.ptr (some (lp,0))),(1,P),(5,.int .u16 (.ofNat h)),(16,P),(17,.int .i64 (.ofNat n)),(18,.int .i64 (.ofNat i))] 72
theorem q2F:qAg 2 qTw=.seq (.seq (seqL (seqL (qAg 2 qTw))) (.block 0 (.loop qYc))) (qAg 3 qTw):=by kernel_rfl
theorem cvtV {a:Nat} {Y:ASt} (h:a<1000000):qA5 ESv 24 3 (.int .u64 (.ofNat a)) Y=some (.int .i64 (.ofNat a),Y):=by
 have e:qA5 ESv 24 3 (.int .u64 (.ofNat a)) Y=some (.int .i64 (qAH .i64 (.ofNat a)),Y):=by kernel_rfl
 rw[qBW (by omega)] at e;exact e
section
variable {q:CallT} {H:List Nat→Nat→Nat} {base b1 d l m n cc lp room nu:Nat} {S0 S:ASt} {las:List (List Nat)} {es:List dsk.En} {P P0:AV} {L:List Nat}
theorem qSt {kb:Nat} (hP:qD9 b1 S P L) (hL:∀e,e∈L→e<16) (hLn:L.length<1000) :
  Trip Tryz.prog kb none (.block 0 (.loop qYc)) (fWi lp P (qH1 L 0) L.length 0) S fun z=>z=(.normal,fW lp P (qEE L),S):=by
 have hx:Trip Tryz.prog kb none qYc (fWi lp P (qH1 L L.length) L.length L.length) S fun z=>z=(.exit 0,fW lp P (qEE L),S):=by
  rw[qMt];exact tR qAB [0,1,5] (Eq.mp (vcUd lp L.length (qEE L) L.length P S (fun z=>z=(.exit 0,fW lp P (qEE L),S))) ⟨lF (Nat.le_refl _),rfl⟩)
 refine Trip.turns (P:=Tryz.prog) (kb:=kb) (ro:=none) (L:=qYc) (id:=0) (n:=L.length) (T:=fun i=>(fWi lp P (qH1 L i) L.length i,S)) (F:=fW lp P (qEE L)) (Z:=S) (fun i hi=>?_) hx;rcases hP with⟨rfl,rfl⟩ | ⟨r,h0,rfl,h2,h3⟩
 ·cases hi
 ·have ix:=qDc (E:=ESv) (t:=69) (z:=1) (i:=r) (o:=0) (n:=L.length) (k:=i) (c:=.rest 1) (kd:=.i64) (st:=S) (by kernel_rfl) hi;rw[Nat.zero_add] at ix;have he:L.getD i 0<16:=hL _ (by rw[List.getD_eq_getElem?_getD,List.getElem?_eq_getElem hi];exact List.getElem_mem hi);have h2e:2 ^ L.getD i 0<65536:=Nat.pow_lt_pow_right (a:=2) (n:=16) (by decide) he;show Trip _ _ _ _ (fWi lp _ (qH1 L i) L.length i) S fun z=>z=(.normal,fWi lp _ (qH1 L (i+1)) L.length (i+1),S);rw[qK4 hi];exact tR qAB [0,1,5,16,17,18] (Eq.mp (vcUc lp L.length (qH1 L i) i r (L.getD i 0) (.slice (some (r,0)) L.length (.rest 1)) S (fun z=>z=(.normal,fWi lp (.slice (some (r,0)) L.length (.rest 1)) (Nat.lor (qH1 L i) (2 ^ L.getD i 0)) L.length (i+1),S))) ⟨lT hi,ix,qAZ (by kernel_rfl) h3 (qH5 hi),qQO he,qUl (qPn hL i) h2e,qDt (by omega),rfl⟩)
theorem qQ3 (hS:Sums q H) (hv:Dv base S0 S d l m n cc las es) (hcc:cc<90000) (hn:9≤n) (hl:S.h.get lp=some (qB7 d room nu P0)) (hlp:lp≠l∧lp≠m) (hlo:base≤lp) (hP:qD9 b1 S P L) (hL:∀e,e∈L→e<16) (hLn:L.length<1000) (hnu:nu<1000000) :
  ∃S' las',qAE Tryz.prog 149 [.ptr (some (lp,0)),P] S (.int .i64 (.ofNat 0),S')∧Dv base S0 S' d l m n (cc+1) las' []∧S.next≤S'.next∧S'.h.get lp=some (qB7 d room (nu+1) P)∧(∀k,k<S.next→k≠l→k≠m→k≠lp→S'.h.get k=S.h.get k)∧∀j,j<n→nb las' [] j=if j=5+(nu+1) % 4 then blV (qAm H (qFB (nu+1) (qEE L))) else nb las es j:=by
 have hm4:(nu+1) % 4<4:=Nat.mod_lt _ (by decide);have hB:byL (qAm H (qFB (nu+1) (qEE L))):=qGM hS.lt (qJq _ _);have hlS:=hv.tidy.lt hl;obtain⟨dl,ll,ml⟩:=Dv.lt hv;obtain⟨_,_,lm'⟩:=Dv.dne hv (by omega);obtain⟨Y,eY⟩:∃Y,Y=ASt.mk S.h (S.next+22):=⟨_,rfl⟩;have nY:Y.next=S.next+22:=by rw[eY]
 have kY:∀i,Y.h.get i=S.h.get i:=fun i=>by rw[eY]
 have tY:Tidy Y:=by rw[eY];exact hv.tidy.mk (Nat.le_add_right _ _)
 have hvY:=hv.keep (S':=Y) (by omega) tY (fun i _=>kY i);obtain⟨S1,es1,w1,hv1,n1,k1,bb1⟩:=Dv.writeV (i:=5+(nu+1) % 4) (b:=qAm H (qFB (nu+1) (qEE L))) hvY (by omega) (by omega) hB;obtain⟨S2,las2,ck,w2,hv2,n2,k2,bb2,gl2,gm2⟩:=Dv.flushV hv1 (by omega) (by omega);have l1:S1.h.get lp=some (qB7 d room nu P0):=by rw[k1 lp (by omega) hlp.2,kY];exact hl
 have l2:S2.h.get lp=some (qB7 d room nu P0):=by rw[k2 lp (by omega) hlp.1 hlp.2];exact l1
 obtain⟨S3,e3⟩:∃Y,Y=S2.put lp (qB7 d room (nu+1) P0):=⟨_,rfl⟩;have l3:S3.h.get lp=some (qB7 d room (nu+1) P0):=by rw[e3];exact qAl
 obtain⟨S4,e4⟩:∃Y,Y=S3.put lp (qB7 d room (nu+1) P):=⟨_,rfl⟩;have l4:S4.h.get lp=some (qB7 d room (nu+1) P):=by rw[e4];exact qAl
 have k4:∀i,i≠lp→S4.h.get i=S2.h.get i:=fun i hi=>by rw[e4,qA3 hi,e3,qA3 hi]
 have n4:S4.next=S2.next:=by rw[e4,e3];rfl
 have t4:Tidy S4:=by
  rw[e4,e3];exact (hv2.tidy.put (hv2.tidy.lt l2)).put (show lp<S2.next from hv2.tidy.lt l2)
 have old4:∀i,i<S.next→i≠l→i≠m→i≠lp→S4.h.get i=S.h.get i:=fun i hi hl hm hp=>by rw[k4 i hp,k2 i (by omega) hl hm,k1 i (by omega) hm,kY]
 have hgP:qCH (Go.Ax.Good S) P:=by
  rcases hP with⟨rfl,_⟩ | ⟨r,_,rfl,_,h3⟩
  ·trivial
  ·exact .inr ⟨_,h3,by simp⟩
 have hdG:Go.Ax.Good S d:=by
  obtain⟨ck0,hdk⟩:=hv.dk;exact .inr ⟨_,hdk.hd,by unfold dsk.dK;simp⟩
 have hok:=orC_ok (qAi (fun S=>atLB hS (show nu+1<18446744073709551616 by omega) (qKN hL) S)) (orC_ok (qAJ w1) (qAJ w2));have hrun:Trip Tryz.prog S.next none qTw {m:=qAM [.ptr (some (lp,0)),P] 0 .e,n:=72,defs:=[]} S fun z=>z=(.ret,xFr [(4,.int .i64 (.ofNat 0))] 72,S4):=by
  refine Trip.preR qB3 qAB (k:=2) (kf:=[0,1,5]) (by kernel_rfl) (Q1:=fun z=>z=(.normal,fW lp P 0,S)) (Eq.mp (vcUa lp nu P S (fun z=>z=(.normal,fW lp P 0,S))) ⟨vg4 hl,geF (by omega),rfl⟩) ?_ (fun z h1 h2=>absurd (congrArg (·.1) h2) h1);rintro F Y' hY;cases hY;rw[q2F];refine Trip.then (F:=fW lp P (qEE L)) (Z:=S) (Trip.then (F:=fWi lp P (qH1 L 0) L.length 0) (Z:=S) (tR qAB [0,1,5,16,17,18] (Eq.mp (vcUb lp L.length 0 P S (fun z=>z=(.normal,fWi lp P (qH1 L 0) L.length 0,S))) ⟨hP.len (E:=ESv),rfl⟩)) (qSt hP hL hLn)) ?_;subst eY;exact tR (qAG hok) [4] (Eq.mp (vcUe _ lp d nu (qEE L) P (qAm H (qFB (nu+1) (qEE L))) S S1 S2 S3 S4 (fun z=>z=(.ret,xFr [(4,.int .i64 (.ofNat 0))] 72,S4)))
   ⟨vg4 hl,qKk (by omega),vg0 (S:=ASt.mk S.h (S.next+22)) hl,vg1 (S:=ASt.mk S.h (S.next+22)) hl,vg2 (S:=ASt.mk S.h (S.next+22)) hl,by kernel_rfl,qW9 (by decide),cvtV (by omega),qDt (by omega),ca (qAo (qAc ..)),ca (qAW (qA8 (by decide)) oL),qA1 (qCD (vg0 (S:=ASt.mk S.h (S.next+22)) hl)) (qA1 (qCD (vg1 (S:=ASt.mk S.h (S.next+22)) hl)) (qA1 (qCD (vg2 (S:=ASt.mk S.h (S.next+22)) hl)) trivial)),vg0 l1,ca (qAW (qA8 (by decide)) (oR qA6)),by rw[e3];exact vh4 l2 _,by rw[e4];exact vh5 l3 (qD9.cell hP),rfl⟩)
 obtain⟨Ls,hLs⟩:∃Ls,Ls=[(l,AO.cells (dsk.qD2 las2) true),(m,AO.map [] ck),(lp,qB7 d room (nu+1) P)]:=⟨_,rfl⟩;have hat:∀p,p∈Ls→S4.h.get p.1=some p.2:=fun p hp=>by
  rw[hLs] at hp;simp only[List.mem_cons,List.not_mem_nil,or_false] at hp;rcases hp with rfl | rfl | rfl
  ·show S4.h.get l=_;rw[k4 l hlp.1.symm];exact gl2
  ·show S4.h.get m=_;rw[k4 m hlp.2.symm];exact gm2
  ·exact l4
 have hgd:∀p,p∈Ls→Go.Ax.Good S p.1∧qHB (Go.Ax.Good S) p.2:=fun p hp=>by
  obtain⟨ck0,hdk⟩:=hv.dk;rw[hLs] at hp;simp only[List.mem_cons,List.not_mem_nil,or_false] at hp;rcases hp with rfl | rfl | rfl
  ·exact⟨.inr ⟨_,hdk.hl,by simp⟩,cp.qZM _⟩
  ·exact⟨.inr ⟨_,hdk.hm,by simp⟩,fun e he=>by cases he⟩
  ·exact⟨.inr ⟨_,hl,by unfold qB7;simp⟩,hdG,trivial,trivial,trivial,trivial,hgP,trivial⟩
 have hko:∀i,i<S.next→(∀p,p∈Ls→p.1≠i)→S4.h.get i=S.h.get i:=fun i hi hp=>by
  rw[hLs] at hp;exact old4 i hi (fun e=>hp (l,AO.cells (dsk.qD2 las2) true) (by simp) e.symm) (fun e=>hp (m,AO.map [] ck) (by simp) e.symm) (fun e=>hp (lp,qB7 d room (nu+1) P) (by simp) e.symm)
 obtain⟨S',r1,r2,r3⟩:=qAE.ends qB3 (fn:=Tryz.f149) (c:=qTw) (by kernel_rfl) (by kernel_rfl) (by kernel_rfl) (N:=72) (by kernel_rfl) (v:=.int .i64 (.ofNat 0)) (L:=Ls) (M:=S4.next) hv.tidy (by rw[hLs];simp[lm',Ne.symm hlp.1,Ne.symm hlp.2]) (by omega) (fun p hp=>t4.lt (hat p hp)) hgd trivial
  (hrun.mono fun z hz=>by subst hz;exact⟨.inr rfl,_,qBY (rs:=[.tmp 4]) (by kernel_rfl) rfl (qAV (by kernel_rfl) qA9) rfl,⟨hat,hgd,hko⟩,Nat.le_refl _⟩)
 have hk':∀i,i<S.next→i≠l→i≠m→i≠lp→S'.h.get i=S.h.get i:=fun i hi h1 h2 h3=>r2.old i fun p hp=>by
  rw[hLs] at hp;simp only[List.mem_cons,List.not_mem_nil,or_false] at hp;rcases hp with rfl | rfl | rfl
  ·exact Ne.symm h1
  ·exact Ne.symm h2
  ·exact Ne.symm h3
 have g1:S'.h.get l=some (.cells (dsk.qD2 las2) true):=r2.at_ (l,AO.cells (dsk.qD2 las2) true) (by rw[hLs];simp);have g2:S'.h.get m=some (.map [] ck):=r2.at_ (m,AO.map [] ck) (by rw[hLs];simp);have g3:S'.h.get lp=some (qB7 d room (nu+1) P):=r2.at_ (lp,qB7 d room (nu+1) P) (by rw[hLs];simp);refine⟨S',las2,r1,?_,r2.next,g3,hk',fun j hj=>by rw[bb2 j hj,bb1 j]⟩
 -- the disk
 obtain⟨ck0,hdk⟩:=hv.dk;obtain⟨q1,q2,_⟩:=Dv.dne hv (by omega);have hdlp:d≠lp:=qAu hdk.hd hl (fun h=>by unfold dsk.dK qB7 at h;injection h with h;exact absurd (congrArg (fun l:List AV=>l.head?) h) (by intro q;cases q));have hll:las2.length=las.length:=by rw[hv2.len,hv.len]
 have a1:=hv.llo;have a2:=hv.mlo;have a3:=hv.next;refine⟨⟨ck,⟨by rw[hk' d dl q1 q2 hdlp,hll];exact hdk.hd,g1,g2,fun e he=>(by cases he),List.nodup_nil,List.nodup_nil,by rw[hll];exact hdk.most⟩⟩,hv.llo,hv.mlo,hv.dlo,hv2.len,fun e he=>(by cases he),hv2.few,hv2.lby,hv2.vby,r2.tidy,by have:=r2.next;omega,fun i hi=>?_⟩;rw[hk' i (by omega) (by omega) (by omega) (by omega)];exact hv.same i hi
end
theorem Dv.keep0 {base d l m n c:Nat} {S0 X X':ASt} {las:List (List Nat)} (h:Dv base S0 X d l m n c las []) (hd:X'.h.get d=X.h.get d) (hl:X'.h.get l=X.h.get l) (hm:X'.h.get m=X.h.get m) (hb:∀k,k<base→X'.h.get k=X.h.get k) (ht:Tidy X') (hn:base≤X'.next):Dv base S0 X' d l m n c las []:=by
 obtain⟨ck,hdk⟩:=h.dk;exact⟨⟨ck,⟨by rw[hd];exact hdk.hd,by rw[hl];exact hdk.hl,by rw[hm];exact hdk.hm,fun e he=>(by cases he),List.nodup_nil,List.nodup_nil,hdk.most⟩⟩,h.llo,h.mlo,h.dlo,h.len,fun e he=>(by cases he),h.few,h.lby,h.vby,ht,hn,fun k hk=>by rw[hb k hk];exact h.same k hk⟩
theorem AtS.relog {S X X':ASt} {d k room nu sp lp mp s nu':Nat} {x y:Nat→Nat} {c:Bool} {P P':AV} {L L':List Nat} (h:AtS S X d k room nu sp lp mp x y c P L s) (hl:X'.h.get lp=some (qB7 d room nu' P')) (hP:qD9 S.next X' P' L') (h1:X'.h.get sp=X.h.get sp) (h2:X'.h.get mp=X.h.get mp) (ht:Tidy X') (hn:S.next≤X'.next):AtS S X' d k room nu' sp lp mp x y c P' L' s :=
 ⟨by rw[h1];exact h.st,hl,by rw[h2];exact h.mg,hP,h.los,h.lol,h.lom,ht,hn⟩
theorem AtS.ne {S X:ASt} {d k room nu sp lp mp s:Nat} {x y:Nat→Nat} {c:Bool} {P:AV} {L:List Nat} (h:AtS S X d k room nu sp lp mp x y c P L s):sp≠mp∧lp≠mp∧sp≠lp:=⟨qAu h.st h.mg (fun q=>qQ2 q.symm),qAu h.lg h.mg qQa,qAu h.st h.lg (fun q=>qQ9 q.symm)⟩
structure HotL (room:Nat) (L:List Nat):Prop where
 nd:L.Nodup
 lt:∀e,e∈L→e<16
 len:L.length≤room
theorem qDp {L:List Nat} {i:Nat} (h:i<L.length):L=L.take i++L.getD i 0::L.drop (i+1):=by
 rw[List.getD_eq_getElem?_getD,List.getElem?_eq_getElem h];show L=L.take i++L[i]::L.drop (i+1);rw[List.getElem_cons_drop,List.take_append_drop]
theorem qTJ {L:List Nat} {i e:Nat} (h:i<L.length) (he:L.getD i 0=e):∀a,a∈L↔a∈L.take i++L.drop (i+1)++[e]:=fun a=>by
 have hs:=qDp h;rw[he] at hs
 constructor
 ·intro q;rw[hs] at q;simp only[List.mem_append,List.mem_cons] at q;simp only[List.mem_append,List.mem_singleton];rcases q with q | q | q
  ·exact .inl (.inl q)
  ·exact .inr q
  ·exact .inl (.inr q)
 ·intro q;rw[hs];simp only[List.mem_append,List.mem_singleton] at q;simp only[List.mem_append,List.mem_cons];rcases q with (q | q) | q
  ·exact .inl q
  ·exact .inr (.inr q)
  ·exact .inr (.inl q)
theorem qQS {A C:List Nat} {e:Nat} (h:(A++e::C).Nodup):(A++C++[e]).Nodup:=by
 rw[List.nodup_append] at h ⊢;obtain⟨h1,h2,h3⟩:=h;rw[List.nodup_cons] at h2;refine⟨List.nodup_append.2 ⟨h1,h2.2,fun a ha b hb=>h3 a ha b (List.mem_cons_of_mem _ hb)⟩,by simp,fun a ha b hb=>?_⟩;rw[List.mem_singleton.1 hb];rcases List.mem_append.1 ha with ha | ha
 ·exact h3 a ha e List.mem_cons_self
 ·exact fun q=>h2.1 (by rw[←q];exact ha)
section
variable {q:CallT} {H:List Nat→Nat→Nat} {base d l m n cc k room nu sp lp mp s:Nat} {S0 S X:ASt} {las:List (List Nat)} {x y:Nat→Nat} {c:Bool} {P:AV} {L:List Nat}
structure Tch (H:List Nat→Nat→Nat) (base:Nat) (S0 S X X':ASt) (d l m n cc k room nu sp lp mp:Nat) (x y:Nat→Nat) (c:Bool) (s:Nat) (las las':List (List Nat)) (L L':List Nat) (P':AV) (nu':Nat):Prop where
 at_:AtS S X' d k room nu' sp lp mp x y c P' L' s
 dv:Dv base S0 X' d l m n (cc+1) las' []
 hl:HotL room L'
 kind:(nu'=nu∧(∀j,j<n→nb las' [] j=nb las [] j)∧∀i,i∈L↔i∈L')∨(nu'=nu+1∧∀j,j<n→nb las' [] j=if j=5+(nu+1) % 4 then blV (qAm H (qFB (nu+1) (qEE L'))) else nb las [] j)
 kp:∀i,i<X.next→i≠l→i≠m→i≠lp→X'.h.get i=X.h.get i
theorem qQ7 {e:Nat} (hS:Sums q H) (hA:AtS S X d k room nu sp lp mp x y c P L s) (hv:Dv base S0 X d l m n cc las []) (hcc:cc<80000) (hn:9≤n) (hb:base≤S.next) (hdl:d<S.next) (hll:l<S.next) (hml:m<S.next) (hh:HotL room L) (hr1:1≤room) (hr2:room≤16) (hnu:nu<1000000) (he:e<16) :
  ∃a b X' las' L' P' nu',qAE Tryz.prog 146 [.ptr (some (lp,0)),.int .i64 (.ofNat e)] X (.tuple [a,b,.int .i64 (.ofNat 0)],X')∧Tch H base S0 S X X' d l m n cc k room nu sp lp mp x y c s las las' L L' P' nu':=by
 have hLn:L.length<1000:=by have:=hh.len;omega
 obtain⟨n1,n2,n3⟩:=AtS.ne hA;have los:=hA.los;have lol:=hA.lol;have lom:=hA.lom;have hsX:=hA.tidy.lt hA.st;have hlX:=hA.tidy.lt hA.lg;have hmX:=hA.tidy.lt hA.mg;have hnX:=hA.next;obtain⟨Hc,S1,w1,hot1,t1,x1,k1⟩:=qTr hA.tidy hA.hot hLn;obtain⟨z,w2,hz⟩:=qLA (e:=e) t1 hot1 hLn;have l1:S1.h.get lp=some (qB7 d room nu P):=(k1 lp hlX).trans hA.lg;have hbs:∀Y:ASt,Y=Y:=fun _=>rfl;rcases hz with⟨i,rfl,hi,hie⟩ | ⟨rfl,hne⟩
 ·-- it is hot
  rcases hot1 with⟨_,e0⟩ | ⟨r,r0,rfl,r2,r3⟩
  ·rw[e0] at hi;cases hi
  obtain⟨S2,w3,g2,k2,t2,x2⟩:=qVS t1 r3 hi hLn;obtain⟨A,eA⟩:∃A,A=L.take i++L.drop (i+1):=⟨_,rfl⟩;rw[←eA] at g2;have hAl:A.length=L.length - 1:=by rw[eA,List.length_append,List.length_take,List.length_drop];omega
  obtain⟨S3,e3⟩:∃Y,Y=S2.add (.cells [.int .i64 (.ofNat e)] true):=⟨_,rfl⟩;have hrS2:=t2.lt g2;have g3:S3.h.get r=some (.cells (qBf (A++([0]++[]))) true):=by rw[e3,qAj (by omega),List.append_nil];exact g2
  have hf:qAw S3 1 [e].length (.slice (some (S2.next,0)) 1 (.known 1))=some (qBf [e]):=qCv (c:=.known 1) (show S3.h.get S2.next=some (.cells [.int .i64 (.ofNat e)] true) by rw[e3];exact qBM) (by kernel_rfl);have hap:=qRp apV g3 (x:=.slice (some (S2.next,0)) 1 (.known 1)) (T:=[e]) rfl hf Nat.one_pos rfl;rw[hAl,List.append_nil] at hap;obtain⟨S4,e4⟩:∃Y,Y=S3.put r (.cells (qBf (A++[e])) true):=⟨_,rfl⟩;rw[←e4] at hap;have hone:L.length - 1+[e].length=(A++[e]).length:=by rw[List.length_append,hAl]
  rw[hone] at hap;have k4:∀j,j<X.next→S4.h.get j=X.h.get j:=fun j hj=>by rw[e4,qA3 (by omega),e3,qAj (by omega),k2 j (by omega),k1 j hj]
  have n4:S4.next=S2.next+1:=by rw[e4,e3];rfl
  have t4:Tidy S4:=by rw[e4,e3];exact t2.add.put (by show r<S2.next+1;omega)
  have l4:S4.h.get lp=some (qB7 d room nu P):=(k4 lp hlX).trans hA.lg;obtain⟨S5,e5⟩:∃Y,Y=S4.put lp (qB7 d room nu (.slice (some (r,0)) (A++[e]).length (.rest 1))):=⟨_,rfl⟩;have k5:∀j,j≠lp→S5.h.get j=S4.h.get j:=fun j hj=>by rw[e5,qA3 hj]
  have n5:S5.next=S4.next:=by rw[e5];rfl
  have t5:Tidy S5:=by rw[e5];exact t4.put (by omega)
  have hmem:=qTJ hi hie;rw[←eA] at hmem;have hok:=orC_ok (qAJ w1) (orC_ok (qAJ w2) (qAJ w3));refine⟨.int .i64 (.negSucc 0),.bool false,S5,las,A++[e],.slice (some (r,0)) (A++[e]).length (.rest 1),nu,?_,⟨AtS.relog hA (by rw[e5];exact qAl) (.inr ⟨r,by rw[List.length_append];exact Nat.lt_of_lt_of_le Nat.one_pos (Nat.le_add_left _ _),rfl,by omega,by rw[k5 r (by omega),e4];exact qAl⟩) (by rw[k5 sp n3,k4 sp hsX]) (by rw[k5 mp (Ne.symm n2),k4 mp hmX]) t5 (by omega),?_,⟨?_,fun a ha=>hh.lt a ((hmem a).2 ha),by rw[←hone];have:=hh.len;simp only[List.length_singleton];omega⟩,.inl ⟨rfl,fun j _=>rfl,hmem⟩,fun i hi _ _ hp=>by rw[k5 i hp,k4 i hi]⟩⟩
  ·refine qAE.of_exR qB3 (qAG hok) (fn:=Tryz.f146) (c:=qY8) (by kernel_rfl) (by kernel_rfl) (by kernel_rfl) (N:=65) (by kernel_rfl) (by rfl) (kf:=[4,5,6]) (by kernel_rfl) (Q:=fun z=>z=(.ret,xFr [(4,.int .i64 (.negSucc 0)),(5,.bool false),(6,.int .i64 (.ofNat 0))] 65,S5)) (Eq.mp (vcPa _ lp d e i P (.slice (some (r,0)) L.length (.rest 1)) (.slice (some (r,0)) (L.length - 1) (.rest 1)) (.slice (some (S2.next,0)) 1 (.known 1)) (.slice (some (r,0)) (A++[e]).length (.rest 1)) X S1 S2 S3 S4 S5 (fun z=>z=(.ret,xFr [(4,.int .i64 (.negSucc 0)),(5,.bool false),(6,.int .i64 (.ofNat 0))] 65,S5)))
    ⟨vg0 hA.lg,lF (Nat.zero_le _),geF he,vg5 hA.lg,ca oL,ca (oR oL),geT (Nat.zero_le _),qDt (by omega),ca (oR (oR qA6)),by rw[e3];kernel_rfl,hap,by rw[e5];exact vh5 l4 rfl,rfl⟩) (fun e F Z hz=>?_)
   cases hz;exact⟨.inr rfl,rfl,qBY (rs:=[.tmp 4,.tmp 5,.tmp 6]) (by kernel_rfl) rfl (qAV (by kernel_rfl) (qAV (by kernel_rfl) (qAV (by kernel_rfl) qA9))) rfl⟩
  ·exact (Dv.keep0 hv (X':=S5) (by rw[k5 d (by omega),k4 d (by omega)]) (by rw[k5 l (by omega),k4 l (by omega)]) (by rw[k5 m (by omega),k4 m (by omega)]) (fun j hj=>by rw[k5 j (by omega),k4 j (by omega)]) t5 (by omega)).mono (Nat.le_succ _)
  ·rw[eA];refine qQS ?_;have:=qDp hi;rw[hie] at this;rw[←this];exact hh.nd
 ·rcases Nat.lt_or_ge L.length room with hfull | hfull
  ·-- there is room
   obtain⟨B,S4,hap,hot4,t4,x4,k4⟩:=qZt apV hot1 t1 x1 e hLn;have k4':∀j,j<X.next→S4.h.get j=X.h.get j:=fun j hj=>by rw[k4 j (by omega) (.inl hj),k1 j hj]
   have hv4:=hv.keep (S':=S4) (by omega) t4 k4';have hlt:∀a,a∈L++[e]→a<16:=fun a ha=>by
    rcases List.mem_append.1 ha with ha | ha
    ·exact hh.lt a ha
    ·rw[List.mem_singleton.1 ha];exact he
   have l4:S4.h.get lp=some (qB7 d room nu P):=(k4' lp hlX).trans hA.lg;obtain⟨S5,las5,w5,hv5,x5,l5,k5,b5⟩:=qQ3 hS hv4 (by omega) hn l4 ⟨by omega,by omega⟩ (by omega) hot4 hlt (by rw[List.length_append];simp only[List.length_singleton];omega) hnu;have hok:=orC_ok (qAJ w1) (orC_ok (qAJ w2) (qAJ w5));have hot5:qD9 S.next S5 B (L++[e]):=by
    rcases hot4 with q | ⟨r,r0,r1,r2,r3⟩
    ·exact .inl q
    ·exact .inr ⟨r,r0,r1,by omega,by rw[k5 r (t4.lt r3) (by omega) (by omega) (by omega)];exact r3⟩
   refine⟨.int .i64 (.negSucc 0),.bool true,S5,las5,L++[e],B,nu+1,?_,⟨AtS.relog hA l5 hot5 (by rw[k5 sp (by omega) (by omega) (by omega) n3,k4' sp hsX]) (by rw[k5 mp (by omega) (by omega) (by omega) (Ne.symm n2),k4' mp hmX]) hv5.tidy (by omega),hv5,⟨List.nodup_append.2 ⟨hh.nd,by simp,fun a ha b hb q=>hne (by rw[←List.mem_singleton.1 hb,←q];exact ha)⟩,hlt,by rw[List.length_append];simp only[List.length_singleton];omega⟩,.inr ⟨rfl,b5⟩,fun i hi hl hm hp=>by rw[k5 i (by omega) hl hm hp,k4' i hi]⟩⟩;refine qAE.of_exR qB3 (qAG hok) (fn:=Tryz.f146) (c:=qY8) (by kernel_rfl) (by kernel_rfl) (by kernel_rfl) (N:=65) (by kernel_rfl) (by rfl) (kf:=[4,5,6]) (by kernel_rfl) (Q:=fun z=>z=(.ret,xFr [(4,.int .i64 (.negSucc 0)),(5,.bool true),(6,.int .i64 (.ofNat 0))] 65,S5)) (Eq.mp (vcPb _ lp d e L.length room P Hc (.slice (some (S1.next,0)) 1 (.known 1)) B X S1 (S1.add (.cells [.int .i64 (.ofNat e)] true)) S4 S5 (fun z=>z=(.ret,xFr [(4,.int .i64 (.negSucc 0)),(5,.bool true),(6,.int .i64 (.ofNat 0))] 65,S5)))
    ⟨vg0 hA.lg,lF (Nat.zero_le _),geF he,vg5 hA.lg,ca oL,ca (oR oL),by rw[qKj];rfl,hot1.len (E:=ESv),vg3 l1,geF hfull,by kernel_rfl,hap,ca (oR (oR qA6)),rfl⟩) (fun e F Z hz=>?_)
   cases hz;exact⟨.inr rfl,rfl,qBY (rs:=[.tmp 4,.tmp 5,.tmp 6]) (by kernel_rfl) rfl (qAV (by kernel_rfl) (qAV (by kernel_rfl) (qAV (by kernel_rfl) qA9))) rfl⟩
  ·-- the first one goes out
   have hlen1:=hot1.len (E:=ESv);rcases hot1 with⟨_,e0⟩ | ⟨r,r0,rfl,r2,r3⟩
   ·rw[e0] at hfull;simp at hfull;omega
   obtain⟨S2,w3,g2,k2,t2,x2⟩:=qVS (i:=0) t1 r3 r0 hLn;rw[List.take_zero,List.nil_append,Nat.zero_add] at g2;obtain⟨A,eA⟩:∃A,A=L.drop 1:=⟨_,rfl⟩;rw[←eA] at g2;have hAl:A.length=L.length - 1:=by rw[eA,List.length_drop]
   obtain⟨S3,e3⟩:∃Y,Y=S2.add (.cells [.int .i64 (.ofNat e)] true):=⟨_,rfl⟩;have hrS2:=t2.lt g2;have g3:S3.h.get r=some (.cells (qBf (A++([0]++[]))) true):=by rw[e3,qAj (by omega),List.append_nil];exact g2
   have hf:qAw S3 1 [e].length (.slice (some (S2.next,0)) 1 (.known 1))=some (qBf [e]):=qCv (c:=.known 1) (show S3.h.get S2.next=some (.cells [.int .i64 (.ofNat e)] true) by rw[e3];exact qBM) (by kernel_rfl);have hap:=qRp apV g3 (x:=.slice (some (S2.next,0)) 1 (.known 1)) (T:=[e]) rfl hf Nat.one_pos rfl;rw[hAl,List.append_nil] at hap;obtain⟨S4,e4⟩:∃Y,Y=S3.put r (.cells (qBf (A++[e])) true):=⟨_,rfl⟩;rw[←e4] at hap;have hone:L.length - 1+[e].length=(A++[e]).length:=by rw[List.length_append,hAl]
   rw[hone] at hap;have k4:∀j,j<X.next→S4.h.get j=X.h.get j:=fun j hj=>by rw[e4,qA3 (by omega),e3,qAj (by omega),k2 j (by omega),k1 j hj]
   have n4:S4.next=S2.next+1:=by rw[e4,e3];rfl
   have t4:Tidy S4:=by rw[e4,e3];exact t2.add.put (by show r<S2.next+1;omega)
   have l4:S4.h.get lp=some (qB7 d room nu P):=(k4 lp hlX).trans hA.lg;have hot4:qD9 X.next S4 (.slice (some (r,0)) (A++[e]).length (.rest 1)) (A++[e]):=.inr ⟨r,by rw[List.length_append];exact Nat.lt_of_lt_of_le Nat.one_pos (Nat.le_add_left _ _),rfl,r2,by rw[e4];exact qAl⟩;have hv4:=hv.keep (S':=S4) (by omega) t4 k4;have hsub:∀a,a∈A→a∈L:=fun a ha=>by rw[eA] at ha;exact List.mem_of_mem_drop ha
   have hlt:∀a,a∈A++[e]→a<16:=fun a ha=>by
    rcases List.mem_append.1 ha with ha | ha
    ·exact hh.lt a (hsub a ha)
    ·rw[List.mem_singleton.1 ha];exact he
   have hlen:(A++[e]).length≤room:=by rw[←hone];have:=hh.len;simp only[List.length_singleton];omega
   obtain⟨S5,las5,w5,hv5,x5,l5,k5,b5⟩:=qQ3 hS hv4 (by omega) hn l4 ⟨by omega,by omega⟩ (by omega) hot4 hlt (by omega) hnu;have hok:=orC_ok (qAJ w1) (orC_ok (qAJ w2) (orC_ok (qAJ w3) (qAJ w5)));have hndA:A.Nodup:=by rw[eA];exact List.Sublist.nodup (List.drop_sublist 1 L) hh.nd
   have ix:=qDc (E:=ESv) (t:=69) (z:=1) (i:=r) (o:=0) (n:=L.length) (k:=0) (c:=.rest 1) (kd:=.i64) (st:=S1) (by kernel_rfl) r0;refine⟨.int .i64 (.ofNat (L.getD 0 0)),.bool true,S5,las5,A++[e],.slice (some (r,0)) (A++[e]).length (.rest 1),nu+1,?_,⟨AtS.relog hA l5 (.inr ⟨r,by rw[List.length_append];exact Nat.lt_of_lt_of_le Nat.one_pos (Nat.le_add_left _ _),rfl,by omega,by rw[k5 r (by omega) (by omega) (by omega) (by omega),e4];exact qAl⟩) (by rw[k5 sp (by omega) (by omega) (by omega) n3,k4 sp hsX]) (by rw[k5 mp (by omega) (by omega) (by omega) (Ne.symm n2),k4 mp hmX]) hv5.tidy (by omega),hv5,⟨List.nodup_append.2 ⟨hndA,by simp,fun a ha b hb q=>hne (by rw[←List.mem_singleton.1 hb,←q];exact hsub a ha)⟩,hlt,hlen⟩,.inr ⟨rfl,b5⟩,fun i hi hl hm hp=>by rw[k5 i (by omega) hl hm hp,k4 i hi]⟩⟩;refine qAE.of_exR qB3 (qAG hok) (fn:=Tryz.f146) (c:=qY8) (by kernel_rfl) (by kernel_rfl) (by kernel_rfl) (N:=65) (by kernel_rfl) (by rfl) (kf:=[4,5,6]) (by kernel_rfl) (Q:=fun z=>z=(.ret,xFr [(4,.int .i64 (.ofNat (L.getD 0 0))),(5,.bool true),(6,.int .i64 (.ofNat 0))] 65,S5)) (Eq.mp (vcPc _ lp d e L.length room (L.getD 0 0) P (.slice (some (r,0)) L.length (.rest 1)) (.ptr (some (r,0+0*1))) (.slice (some (r,0)) (L.length - 1) (.rest 1)) (.slice (some (S2.next,0)) 1 (.known 1)) (.slice (some (r,0)) (A++[e]).length (.rest 1)) X S1 S2 S3 S4 S5 (fun z=>z=(.ret,xFr [(4,.int .i64 (.ofNat (L.getD 0 0))),(5,.bool true),(6,.int .i64 (.ofNat 0))] 65,S5)))
    ⟨vg0 hA.lg,lF (Nat.zero_le _),geF he,vg5 hA.lg,ca oL,ca (oR oL),by rw[qKj];rfl,hlen1,vg3 l1,geT hfull,ix,qAZ (by kernel_rfl) r3 (qH5 r0),ca (oR (oR oL)),by rw[e3];kernel_rfl,hap,ca (oR (oR (oR qA6))),rfl⟩) (fun e F Z hz=>?_)
   cases hz;exact⟨.inr rfl,rfl,qBY (rs:=[.tmp 4,.tmp 5,.tmp 6]) (by kernel_rfl) rfl (qAV (by kernel_rfl) (qAV (by kernel_rfl) (qAV (by kernel_rfl) qA9))) rfl⟩
end
end stv
end Go.Proofs.YtiafochainjglaaGreatDoor.drp
