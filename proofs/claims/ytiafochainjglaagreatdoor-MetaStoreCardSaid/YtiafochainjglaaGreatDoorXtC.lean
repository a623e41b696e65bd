/-
  OWN WORK, A PART: an abstract machine for the program's text that the kernel can run, and the proof that it is sound: what it answers is what the program answers; contracts of functions by it. No condition.
-/
import Derived.Test.YtiafochainjglaaGreatDoorXtB
import Derived.Test.YtiafochainjglaaGreatDoorXtA
namespace Go.Proofs.YtiafochainjglaaGreatDoor.drp
open Go Go.Ax Go.Proofs
set_option linter.unusedVariables false
namespace atu
open oo cd cd2 cd3 cd4 cd5 cd9 pu atc
noncomputable def fO1 (d room lp h:Nat):AFr:=xFr [(0,.ptr (some (d,0))),(1,.int .i64 (.ofNat 5)),(2,.int .i64 (.ofNat 4)),(3,.int .i64 (.ofNat room)),(11,.ptr (some (lp,0))),(12,.int .u16 (.ofNat h))] 117
noncomputable def fO2 (d room lp h i:Nat):AFr:=xFr [(0,.ptr (some (d,0))),(1,.int .i64 (.ofNat 5)),(2,.int .i64 (.ofNat 4)),(3,.int .i64 (.ofNat room)),(11,.ptr (some (lp,0))),(12,.int .u16 (.ofNat h)),(42,.int .i64 (.ofNat 4)),(43,.int .i64 (.ofNat i))] 117
noncomputable def fO3 (room lp h:Nat):AFr:=xFr [(3,.int .i64 (.ofNat room)),(11,.ptr (some (lp,0))),(12,.int .u16 (.ofNat h))] 117
noncomputable def fO4 (room lp h x:Nat):AFr:=xFr [(3,.int .i64 (.ofNat room)),(11,.ptr (some (lp,0))),(12,.int .u16 (.ofNat h)),(88,.int .i64 (.ofNat x))] 117
theorem sh79:qAg 5 c79=.seq (.seq (seqL (seqL (qAg 5 c79))) (.block 0 (.loop qUU))) (.seq (.seq (seqL (seqL (qAg 6 c79))) (.block 2 (.loop qVZ))) (qAg 7 c79)):=by kernel_rfl
theorem cvtU {a:Nat} {Y:ASt} (h:a<1000000):qA5 EAu 24 3 (.int .u64 (.ofNat a)) Y=some (.int .i64 (.ofNat a),Y):=by
 have e:qA5 EAu 24 3 (.int .u64 (.ofNat a)) Y=some (.int .i64 (qAH .i64 (.ofNat a)),Y):=by kernel_rfl
 rw[qBW (by omega)] at e;exact e
def qSV (n g:Nat) (il:Bool):AV:=.tuple [.int .u64 (.ofNat n),.int .u16 (.ofNat g),.int .i64 (.ofNat (cond il 0 4))]
theorem qOE {q:CallT} {kb d room lp nu h n g i:Nat} {il:Bool} {B:List Nat} {S X:ASt} (hq:CallsOK Tryz.prog q) (o:Ov S X [(lp,qB7 d room nu (.slice none 0 (.known 0)))])
  (hr:∀{l:List (Nat×AO)} (Y:ASt),Ov S Y l→q 56 [.ptr (some (d,0)),.int .i64 (.ofNat (5+i))] Y=some (.tuple [.agg (bl B),.int .i64 (.ofNat 0)],Y)) (hl:∀Y:ASt,q 59 [.agg (bl B)] Y=some (qSV n g il,Y)) (hi:i<4) :
  ∃X',Ov S X' [(lp,qB7 d room (qCK i il n g nu h).1 (.slice none 0 (.known 0)))]∧Trip Tryz.prog kb none qUU (fO2 d room lp h i) X fun r=>r=(.normal,fO2 d room lp (qCK i il n g nu h).2 (i+1),X'):=by
 obtain⟨S1,e1,o1⟩:=o.add (.cells (bl []) true);obtain⟨S2,e2,o2⟩:=o1.stA (E:=EAu) (t:=54) (i:=1) (k:=X.next) (o:=0) (z:=256) (vs:=bl B) [] (bl []) [] (by kernel_rfl) (by kernel_rfl) rfl (qBI _) (qBI _);have c1:=lT (E:=EAu) (Y:=X) (t:=3) (k:=.i64) (a:=i) (b:=4) (x:=.tmp 43) (y:=.tmp 42) hi;have c2:=qDt (E:=EAu) (Y:=X) (t:=3) (a:=5) (b:=i) (x:=.tmp 48) (y:=.tmp 49) (by omega);have ld:qAQ EAu 54 (.ptr (some (X.next,0))) S2=some (.agg (bl B),S2):=o2.ldA (i:=1) (z:=256) (cs:=bl B) (by kernel_rfl) (by kernel_rfl) qBx;have g2:S2.h.get lp=some (qB7 d room nu (.slice none 0 (.known 0))):=(o2.loc 0 (lp,qB7 d room nu (.slice none 0 (.known 0))) (by kernel_rfl)).2;have o2':Ov S S2 [(lp,qB7 d room nu (.slice none 0 (.known 0)))]:=o2.only0 (by kernel_rfl);have inc:∀Y:ASt,still Y (qAD EAu .add 3 (.tmp 43) (.const (.int .i64 1)) (.int .i64 (.ofNat i)) (.int .i64 (.ofNat 1)))=some (.int .i64 (.ofNat (i+1)),Y):=fun Y=>qDt (by omega);have hl':=hl S2;unfold qSV at hl';unfold qCK;cases il with
 | false =>
  exact⟨S2,o2',Trip.ofR qBn (qAG hq) (kf:=[0,1,2,3,11,12,42,43]) (Q1:=fun r=>r=(.normal,fO2 d room lp h (i+1),S2)) (Eq.mp (q11 q d room lp h i X.next n g B X S1 S2 (fun r=>r=(.normal,fO2 d room lp h (i+1),S2))) ⟨c1,c2,ca (hr _ o),o.al e1,e2,ld,ca hl',inc _,rfl⟩) (fun e F Y hz=>hz)⟩
 | true =>
  by_cases h1:nu<n
  ·by_cases h2:n % 4=i
   ·rw[decide_eq_true h1,decide_eq_true h2];obtain⟨S3,e3⟩:∃Y,Y=S2.put lp (qB7 d room n (.slice none 0 (.known 0))):=⟨_,rfl⟩;have o3:=o2'.put 0 lp (qB7 d room n (.slice none 0 (.known 0))) _ rfl;rw[←e3] at o3;exact⟨S3,o3,Trip.ofR qBn (qAG hq) (kf:=[0,1,2,3,11,12,42,43]) (Q1:=fun r=>r=(.normal,fO2 d room lp g (i+1),S3)) (Eq.mp (vcOf q d room lp h i X.next n g nu B X S1 S2 S3 (fun r=>r=(.normal,fO2 d room lp g (i+1),S3))) ⟨c1,c2,ca (hr _ o),o.al e1,e2,ld,ca hl',q20 g2,gT h1,qW9 (by decide),cvtU (by omega),eT h2,by rw[e3];exact lst4 g2 n,inc _,rfl⟩) (fun e F Y hz=>hz)⟩
   ·rw[decide_eq_true h1,decide_eq_false h2];exact⟨S2,o2',Trip.ofR qBn (qAG hq) (kf:=[0,1,2,3,11,12,42,43]) (Q1:=fun r=>r=(.normal,fO2 d room lp h (i+1),S2)) (Eq.mp (vcOe q d room lp h i X.next n g nu B X S1 S2 (fun r=>r=(.normal,fO2 d room lp h (i+1),S2))) ⟨c1,c2,ca (hr _ o),o.al e1,e2,ld,ca hl',q20 g2,gT h1,qW9 (by decide),cvtU (by omega),eF h2,inc _,rfl⟩) (fun e F Y hz=>hz)⟩
  ·rw[decide_eq_false h1];exact⟨S2,o2',Trip.ofR qBn (qAG hq) (kf:=[0,1,2,3,11,12,42,43]) (Q1:=fun r=>r=(.normal,fO2 d room lp h (i+1),S2)) (Eq.mp (q10 q d room lp h i X.next n g nu B X S1 S2 (fun r=>r=(.normal,fO2 d room lp h (i+1),S2))) ⟨c1,c2,ca (hr _ o),o.al e1,e2,ld,ca hl',q20 g2,gF (by omega),inc _,rfl⟩) (fun e F Y hz=>hz)⟩
structure LI (S:ASt) (d room nu lp:Nat) (L:List Nat) (s:AV×ASt):Prop where
 log:s.2.h.get lp=some (qB7 d room nu s.1)
 hot:qD9 S.next s.2 s.1 L
 tidy:Tidy s.2
 next:S.next≤s.2.next
 old:∀k,k<S.next→s.2.h.get k=S.h.get k
theorem qRk {kb d room lp nu h x:Nat} {S:ASt} {s:AV×ASt} (hx:x<16) (hlp:S.next≤lp) (I:LI S d room nu lp (qFI h room x) s) :
  ∃s',(Trip Tryz.prog kb none qVZ (fO4 room lp h x) s.2 fun r=>r=(.normal,fO4 room lp h (x+1),s'.2))∧LI S d room nu lp (qFI h room (x+1)) s':=by
 obtain⟨P,X⟩:=s;have log:X.h.get lp=some (qB7 d room nu P):=I.log;have hot:qD9 S.next X P (qFI h room x):=I.hot;have c1:=lT (E:=EAu) (Y:=X) (t:=3) (k:=.i64) (a:=x) (b:=16) (x:=.tmp 88) (y:=.const (.int .i64 16)) hx;have c2:=qW7 (E:=EAu) (Y:=X) (t:=34) (k:=.u16) (k2:=.i64) (a:=h) (b:=x) (x:=.tmp 91) (y:=.tmp 92) (show x≤16 by omega);have c3:=qWa (E:=EAu) (Y:=X) (t:=34) (a:=h / 2 ^ x) (x:=.tmp 93) (y:=.const (.int .u16 1));have inc:∀Y:ASt,still Y (qAD EAu .add 3 (.tmp 88) (.const (.int .i64 1)) (.int .i64 (.ofNat x)) (.int .i64 (.ofNat 1)))=some (.int .i64 (.ofNat (x+1)),Y):=fun Y=>qDt (by omega);have hll:=(qKD h room x).2
 by_cases hb:h / 2 ^ x % 2=1
 ·by_cases hr:(qFI h room x).length<room
  ·obtain⟨P2,X2,ap,hot2,t2,n2,k2⟩:=qZt apU hot I.tidy I.next x (by omega);have l2:X2.h.get lp=some (qB7 d room nu P):=(k2 lp (I.tidy.lt log) (.inr ⟨_,_,_,_,log⟩)).trans log;have e:qFI h room (x+1)=qFI h room x++[x]:=if_pos ⟨hb,hr⟩;rw[e];refine⟨(P2,X2.put lp (qB7 d room nu P2)),Trip.ofR qBn qAB (kf:=[3,11,12,88]) (Q1:=fun r=>r=(.normal,fO4 room lp h (x+1),X2.put lp (qB7 d room nu P2))) (Eq.mp (vcOk room lp h x _ P (.slice (some (X.next,0)) 1 (.known 1)) P2 X (X.add (.cells [.int .i64 (.ofNat x)] true)) X2 (X2.put lp (qB7 d room nu P2)) (fun r=>r=(.normal,fO4 room lp h (x+1),X2.put lp (qB7 d room nu P2))))
    ⟨c1,c2,c3,eT hb,qZi log,hot.len,lT hr,qZi log,by kernel_rfl,ap,lst5 l2 (qD9.cell hot2),inc _,rfl⟩) (fun e F Y hz=>hz),⟨qAl,qD9.put hot2 l2,t2.put (t2.lt l2),?_,fun k hk=>?_⟩⟩
   ·show S.next≤X2.next;exact Nat.le_trans I.next n2
   ·show (X2.put lp _).h.get k=_;have hkX:k<X.next:=Nat.lt_of_lt_of_le hk I.next;rw[qA3 (by omega),k2 k hkX (.inl hk)];exact I.old k hk
  ·have e:qFI h room (x+1)=qFI h room x:=if_neg (fun q=>hr q.2);rw[e];exact⟨(P,X),Trip.ofR qBn qAB (kf:=[3,11,12,88]) (Q1:=fun r=>r=(.normal,fO4 room lp h (x+1),X)) (Eq.mp (vcOj room lp h x _ P X (fun r=>r=(.normal,fO4 room lp h (x+1),X))) ⟨c1,c2,c3,eT hb,qZi log,hot.len,lF (by omega),inc _,rfl⟩) (fun e F Y hz=>hz),I⟩
 ·have e:qFI h room (x+1)=qFI h room x:=if_neg (fun q=>hb q.1);rw[e];exact⟨(P,X),Trip.ofR qBn qAB (kf:=[3,11,12,88]) (Q1:=fun r=>r=(.normal,fO4 room lp h (x+1),X)) (Eq.mp (vcOi room lp h x X (fun r=>r=(.normal,fO4 room lp h (x+1),X))) ⟨c1,c2,c3,eF hb,inc _,rfl⟩) (fun e F Y hz=>hz),I⟩
section
variable {q:CallT} {H:List Nat→Nat→Nat} {S:ASt} {d k room:Nat} {las:List (List Nat)} {es:List dsk.En}
theorem qW5 (hS:Sums q H) (hD:Dsk S d las es) (hn:las.length=9+k) (h1:1≤k) (h2:k≤64) (hr1:1≤room) (hr2:room≤16) :
  ∃P S',qAE Tryz.prog 79 [.ptr (some (d,0)),.int .i64 (.ofNat 5),.int .i64 (.ofNat 4),.int .i64 (.ofNat room)] S (.tuple [.ptr (some (S.next,0)),.int .i64 (.ofNat 0)],S')∧LI S d room (qCX H (nb las es) 4).1 S.next (qFI (qCX H (nb las es) 4).2 room 16) (P,S'):=by
 have ht:=hD.tidy;have hokA:=qAJ (qWs hD hn h2);have hokB:=orC_ok (qCw (d:=d) (las:=las) (es:=es)) (qG8 (qZh hS));obtain⟨QB,hQB⟩:∃Q,Q=orC (qIQ d las es) (qVW 59 (qQN H)):=⟨_,rfl⟩;rw[←hQB] at hokB;obtain⟨S1,e1,o1⟩:=(Ov.nil ht).add (qB7 d room 0 (.slice none 0 (.known 0)))
 -- the slots
 obtain⟨T,hT0,hT⟩:=qNo (α:=ASt) (Inv:=fun i X=>Ov S X [(S.next,qB7 d room (qCX H (nb las es) i).1 (.slice none 0 (.known 0)))]) (R:=fun i X X'=>Trip Tryz.prog S.next none qUU (fO2 d room S.next (qCX H (nb las es) i).2 i) X fun r=>r=(.normal,fO2 d room S.next (qCX H (nb las es) (i+1)).2 (i+1),X')) o1 4 (fun i X hi o=>by
  obtain⟨X',g1,g2⟩:=qOE (kb:=S.next) (h:=(qCX H (nb las es) i).2) (B:=nb las es (5+i)) (n:=lN H (nb las es (5+i))) (g:=lS H (nb las es (5+i))) (il:=iL H (nb las es (5+i))) hokB o (fun Y oY=>by rw[hQB];exact qAo (qG6 (hD.over oY) (by omega))) (fun Y=>by rw[hQB];exact qAW (qBl (by decide) (by decide)) (qFb (hD.bk _) Y)) hi;exact⟨X',g2,g1⟩)
 obtain⟨nu,hnu⟩:∃nu,nu=(qCX H (nb las es) 4).1:=⟨_,rfl⟩;obtain⟨h,hh⟩:∃h,h=(qCX H (nb las es) 4).2:=⟨_,rfl⟩;have o4:Ov S (T 4) [(S.next,qB7 d room nu (.slice none 0 (.known 0)))]:=by rw[hnu];exact (hT 3 (by decide)).2.2
 -- the bits
 have i0:LI S d room nu S.next (qFI h room 0) (.slice none 0 (.known 0),T 4):=⟨(o4.loc 0 _ rfl).2,.inl ⟨rfl,rfl⟩,o4.tidy,o4.next,o4.old⟩;obtain⟨V,hV0,hV⟩:=qNo (R:=fun (x:Nat) (s s':AV×ASt)=>Trip Tryz.prog S.next none qVZ (fO4 room S.next h x) s.2 fun r=>r=(.normal,fO4 room S.next h (x+1),s'.2)) i0 16 (fun x s hx I=>qRk hx (Nat.le_refl _) I);have iN:LI S d room nu S.next (qFI h room 16) (V 16):=(hV 15 (by decide)).2.2;rw[←hnu,←hh];have hrun:Trip Tryz.prog S.next none c79 {m:=qAM [.ptr (some (d,0)),.int .i64 (.ofNat 5),.int .i64 (.ofNat 4),.int .i64 (.ofNat room)] 0 .e,n:=117,defs:=[]} S fun r=>r=(.ret,xFr [(8,.ptr (some (S.next,0))),(9,.int .i64 (.ofNat 0))] 117,(V 16).2):=by
  refine Trip.preR qBn (qAG hokA) (k:=5) (kf:=[0,1,2,3,11,12]) (by kernel_rfl) (Q1:=fun z=>z=(.normal,fO1 d room S.next 0,S1)) (Eq.mp (q13 _ d room S.next S S1 (fun z=>z=(.normal,fO1 d room S.next 0,S1))) ⟨ca qA6,lF hr1,gF hr2,by rw[e1];rfl,rfl⟩) ?_ (fun z h1 h2=>absurd (congrArg (·.1) h2) h1);rintro F Y hY;cases hY;rw[sh79];refine Trip.then (F:=fO3 room S.next h) (Z:=T 4) ?_ ?_
  ·refine Trip.then (F:=fO2 d room S.next 0 0) (Z:=S1) (Trip.ofR qBn qAB (kf:=[0,1,2,3,11,12,42,43]) (Q1:=fun z=>z=(.normal,fO2 d room S.next 0 0,S1)) (Eq.mp (q12 d room S.next 0 S1 (fun z=>z=(.normal,fO2 d room S.next 0 0,S1))) rfl) (fun e F Y hz=>hz)) ?_;have:=Trip.turns (P:=Tryz.prog) (kb:=S.next) (ro:=none) (L:=qUU) (id:=0) (n:=4) (T:=fun i=>(fO2 d room S.next (qCX H (nb las es) i).2 i,T i)) (F:=fO3 room S.next h) (Z:=T 4) (fun i hi=>(hT i hi).2.1) (Trip.ofR qBn qAB (kf:=[3,11,12]) (Q1:=fun z=>z=(.exit 0,fO3 room S.next h,T 4)) (by rw[←hh];exact (Eq.mp (vcOg d room S.next h 4 (T 4) (fun z=>z=(.exit 0,fO3 room S.next h,T 4))) ⟨lF (Nat.le_refl _),rfl⟩)) (fun e F Y hz=>hz));simp only[hT0] at this;exact this
  ·refine Trip.then (F:=xFr [(11,.ptr (some (S.next,0)))] 117) (Z:=(V 16).2) ?_ (Trip.ofR qBn qAB (kf:=[8,9]) (Q1:=fun z=>z=(.ret,xFr [(8,.ptr (some (S.next,0))),(9,.int .i64 (.ofNat 0))] 117,(V 16).2)) (Eq.mp (vcOm S.next (V 16).2 (fun z=>z=(.ret,xFr [(8,.ptr (some (S.next,0))),(9,.int .i64 (.ofNat 0))] 117,(V 16).2))) rfl) (fun e F Y hz=>hz));refine Trip.then (F:=fO4 room S.next h 0) (Z:=T 4) (Trip.ofR qBn qAB (kf:=[3,11,12,88]) (Q1:=fun z=>z=(.normal,fO4 room S.next h 0,T 4)) (Eq.mp (vcOh room S.next h (T 4) (fun z=>z=(.normal,fO4 room S.next h 0,T 4))) rfl) (fun e F Y hz=>hz)) ?_;have:=Trip.turns (P:=Tryz.prog) (kb:=S.next) (ro:=none) (L:=qVZ) (id:=2) (n:=16) (T:=fun x=>(fO4 room S.next h x,(V x).2)) (F:=xFr [(11,.ptr (some (S.next,0)))] 117) (Z:=(V 16).2) (fun x hx=>(hV x hx).2.1) (Trip.ofR qBn qAB (kf:=[11]) (Q1:=fun z=>z=(.exit 2,xFr [(11,.ptr (some (S.next,0)))] 117,(V 16).2)) (Eq.mp (vcOl room S.next h 16 (V 16).2 (fun z=>z=(.exit 2,xFr [(11,.ptr (some (S.next,0)))] 117,(V 16).2))) ⟨lF (Nat.le_refl _),rfl⟩) (fun e F Y hz=>hz));simp only[hV0] at this;exact this
 have hlv:∀{Z:ASt},leaveA EAu Tryz.f79 (xFr [(8,.ptr (some (S.next,0))),(9,.int .i64 (.ofNat 0))] 117) Z=some (.tuple [.ptr (some (S.next,0)),.int .i64 (.ofNat 0)],Z):=fun {Z}=>qBY (rs:=[.tmp 8,.tmp 9]) (by kernel_rfl) rfl (qAV (by kernel_rfl) (qAV (by kernel_rfl) qA9)) rfl;have hv:qCH (Go.Ax.Good S) (.tuple [.ptr (some (S.next,0)),.int .i64 (.ofNat 0)]):=⟨.inl (Nat.le_refl _),trivial,trivial⟩;have hdG:Go.Ax.Good S d:=by
  obtain⟨l,m,ck,hdk⟩:=hD.ex;exact .inr ⟨_,hdk.hd,by unfold dsk.dK;simp⟩
 have gl:qHB (Go.Ax.Good S) (qB7 d room nu (V 16).1):=⟨hdG,trivial,trivial,trivial,trivial,qD9.refs iN.hot (Nat.le_refl _),trivial⟩;rcases iN.hot with⟨e,e'⟩ | ⟨r,f0,f1,f2,f3⟩
 ·have gd:∀p,p∈[(S.next,qB7 d room nu (V 16).1)]→Go.Ax.Good S p.1∧qHB (Go.Ax.Good S) p.2:=fun p hp=>by rw[List.mem_singleton.1 hp];exact⟨.inl (Nat.le_refl _),gl⟩
  have ga:∀p,p∈[(S.next,qB7 d room nu (V 16).1)]→(V 16).2.h.get p.1=some p.2:=fun p hp=>by rw[List.mem_singleton.1 hp];exact iN.log
  obtain⟨S',w1,w2,w3⟩:=qAE.ends qBn (fn:=Tryz.f79) (c:=c79) (by kernel_rfl) (by kernel_rfl) (by kernel_rfl) (N:=117) (by kernel_rfl) (L:=[(S.next,qB7 d room nu (V 16).1)]) ht (by simp) iN.next (fun p hp=>iN.tidy.lt (ga p hp)) gd hv
   (hrun.mono fun z hz=>by subst hz;exact⟨.inr rfl,_,hlv,⟨ga,gd,fun k hk _=>iN.old k hk⟩,Nat.le_refl _⟩)
  exact⟨(V 16).1,S',w1,w2.at_ _ (List.mem_singleton_self _),.inl ⟨e,e'⟩,w2.tidy,w2.next,fun k hk=>w2.old k (fun p hp=>by rw[List.mem_singleton.1 hp];show S.next≠k;omega)⟩
 ·have hne:S.next≠r:=fun q=>qAu f3 iN.log qH4 q.symm;have gd:∀p,p∈[(S.next,qB7 d room nu (V 16).1),(r,AO.cells (qBf (qFI h room 16)) true)]→Go.Ax.Good S p.1∧qHB (Go.Ax.Good S) p.2:=fun p hp=>by
   rcases List.mem_cons.1 hp with rfl | hp
   ·exact⟨.inl (Nat.le_refl _),gl⟩
   ·rw[List.mem_singleton.1 hp];exact⟨.inl f2,qUc _⟩
  have ga:∀p,p∈[(S.next,qB7 d room nu (V 16).1),(r,AO.cells (qBf (qFI h room 16)) true)]→(V 16).2.h.get p.1=some p.2:=fun p hp=>by
   rcases List.mem_cons.1 hp with rfl | hp
   ·exact iN.log
   ·rw[List.mem_singleton.1 hp];exact f3
  obtain⟨S',w1,w2,w3⟩:=qAE.ends qBn (fn:=Tryz.f79) (c:=c79) (by kernel_rfl) (by kernel_rfl) (by kernel_rfl) (N:=117) (by kernel_rfl) (L:=[(S.next,qB7 d room nu (V 16).1),(r,AO.cells (qBf (qFI h room 16)) true)]) ht (by simp[hne]) iN.next (fun p hp=>iN.tidy.lt (ga p hp)) gd hv
   (hrun.mono fun z hz=>by subst hz;exact⟨.inr rfl,_,hlv,⟨ga,gd,fun k hk _=>iN.old k hk⟩,Nat.le_refl _⟩)
  exact⟨(V 16).1,S',w1,w2.at_ _ List.mem_cons_self,.inr ⟨r,f0,f1,f2,w2.at_ _ (List.mem_cons_of_mem _ (List.mem_singleton_self _))⟩,w2.tidy,w2.next,fun k hk=>w2.old k (fun p hp=>by
   rcases List.mem_cons.1 hp with rfl | hp
   ·show S.next≠k;omega
   ·rw[List.mem_singleton.1 hp];show r≠k;omega)⟩
end
theorem Dv.dne {base d l m n c:Nat} {S0 S:ASt} {las:List (List Nat)} {es:List dsk.En} (h:Dv base S0 S d l m n c las es) (hn:0<n):d≠l∧d≠m∧l≠m:=by
 obtain⟨ck,hdk⟩:=h.dk;refine⟨qAu hdk.hd hdk.hl (fun hh=>?_),qAu hdk.hd hdk.hm (by intro e;cases e),qAu hdk.hl hdk.hm (by intro e;cases e)⟩;unfold dsk.dK at hh;injection hh with hh;have hne:(dsk.qD2 las)[0]? = some (qAn ((las.getD 0 []).getD 0 0)):=by
  cases hc0:las with
  | nil=>have:=h.len;rw[hc0] at this;simp at this;omega
  | cons x xs =>
   show (bl x++dsk.qD2 xs)[0]? = _;rw[List.getElem?_append_left (by rw[qBI];decide),qLR (by decide)];rfl
 rw[←hh] at hne;cases hne
theorem Dv.lt {base d l m n c:Nat} {S0 S:ASt} {las:List (List Nat)} {es:List dsk.En} (h:Dv base S0 S d l m n c las es):d<S.next∧l<S.next∧m<S.next:=by
 obtain⟨ck,hdk⟩:=h.dk;exact⟨h.tidy.lt hdk.hd,h.tidy.lt hdk.hl,h.tidy.lt hdk.hm⟩
theorem Dv.end_ {base d l m n c c':Nat} {S0 S S' Z:ASt} {las las':List (List Nat)} {es:List dsk.En} (h:Dv base S0 S d l m n c las es) (hZ:Dv base S0 Z d l m n c' las' []) (hn0:0<n)
  (hl:S'.h.get l=Z.h.get l) (hm:S'.h.get m=Z.h.get m) (ho:∀k,k<S.next→k≠l→k≠m→S'.h.get k=S.h.get k) (ht:Tidy S') (hn:S.next≤S'.next):Dv base S0 S' d l m n c' las' []:=by
 obtain⟨q1,q2,q3⟩:=Dv.dne h hn0;obtain⟨p1,p2,p3⟩:=Dv.lt h;obtain⟨ck,hdk⟩:=h.dk;obtain⟨ck',hdz⟩:=hZ.dk;have hll:las'.length=las.length:=by rw[hZ.len,h.len]
 refine⟨⟨ck',⟨by rw[ho d p1 q1 q2,hll];exact hdk.hd,by rw[hl];exact hdz.hl,by rw[hm];exact hdz.hm,fun e he=>(by cases he),List.nodup_nil,List.nodup_nil,hdz.most⟩⟩,h.llo,h.mlo,h.dlo,hZ.len,fun e he=>(by cases he),hZ.few,hZ.lby,hZ.vby,ht,by have:=h.next;omega,fun k hk=>?_⟩;have a1:=h.llo;have a2:=h.mlo;have a3:=h.next;rw[ho k (by omega) (by omega) (by omega)];exact h.same k hk
def qVF (P:AV) (L:List Nat):List (Nat×AO):=match P with
 | .slice (some (r,_)) _ _=>[(r,.cells (qBf L) true)]
 | _=>[]
section
variable {base:Nat} {S X X':ASt} {P:AV} {L:List Nat}
theorem qDy (h:qD9 base X P L):∀p,p∈qVF P L→X.h.get p.1=some p.2∧base≤p.1∧p.2=.cells (qBf L) true:=fun p hp=>by
 rcases h with⟨rfl,rfl⟩ | ⟨r,_,rfl,h2,h3⟩
 ·cases hp
 ·rw[List.mem_singleton.1 hp];exact⟨h3,h2,rfl⟩
theorem qG3 (h:qD9 base X P L) (h':∀p,p∈qVF P L→X'.h.get p.1=some p.2):qD9 base X' P L:=by
 rcases h with h | ⟨r,h0,rfl,h2,h3⟩
 ·exact .inl h
 ·exact .inr ⟨r,h0,rfl,h2,h' (r,.cells (qBf L) true) (List.mem_singleton_self _)⟩
theorem qT9 (P:AV) (L:List Nat):qVF P L=[]∨∃p,qVF P L=[p]:=by
 unfold qVF
 split
 ·exact .inr ⟨_,rfl⟩
 ·exact .inl rfl
end
theorem qWQ {L:List Nat} {k s:Nat}:AO.cells (qBf L) true≠qGR k s:=fun h=>by
 unfold qGR at h;injection h with h;have:=congrArg (fun l:List AV=>l[1]?) h;unfold qBf at this;simp only[List.getElem?_map,List.getElem?_cons_succ,List.getElem?_cons_zero] at this;cases hl:L[1]? with
 | none=>rw[hl] at this;cases this
 | some e=>rw[hl] at this;cases this
theorem qLr {L:List Nat} {d k:Nat} {x y:Nat→Nat} {c:Bool} {A M:AV}:AO.cells (qBf L) true≠stO d k x c A M y:=fun h=>by
 unfold stO stL at h;injection h with h;cases L with
 | nil=>cases h
 | cons a L=>exact absurd (congrArg (fun l:List AV=>l.head?) h) (by intro q;cases q)
theorem qQa {d room nu k s:Nat} {P:AV}:qB7 d room nu P≠qGR k s:=fun h=>by
 unfold qB7 qGR at h;injection h with h;cases h
theorem qQ9 {d room nu d' k:Nat} {P A M:AV} {x y:Nat→Nat} {c:Bool}:qB7 d room nu P≠stO d' k x c A M y:=fun h=>by
 unfold qB7 stO stL at h;injection h with h;have:=congrArg List.length h;simp[sL,rL] at this
theorem qQ2 {d' k s k':Nat} {A M:AV} {x y:Nat→Nat} {c:Bool}:qGR k' s≠stO d' k x c A M y:=fun h=>by
 unfold qGR stO stL at h;injection h with h;cases h
structure AtS (S X:ASt) (d k room nu sp lp mp:Nat) (x y:Nat→Nat) (c:Bool) (P:AV) (L:List Nat) (s:Nat):Prop where
 st:X.h.get sp=some (stO d k x c (.ptr (some (lp,0))) (.ptr (some (mp,0))) y)
 lg:X.h.get lp=some (qB7 d room nu P)
 mg:X.h.get mp=some (qGR k s)
 hot:qD9 S.next X P L
 los:S.next≤sp
 lol:S.next≤lp
 lom:S.next≤mp
 tidy:Tidy X
 next:S.next≤X.next
def atE (d k room nu sp lp mp:Nat) (x y:Nat→Nat) (c:Bool) (P:AV) (L:List Nat) (s:Nat):List (Nat×AO) :=
 (sp,stO d k x c (.ptr (some (lp,0))) (.ptr (some (mp,0))) y)::(lp,qB7 d room nu P)::(mp,qGR k s)::qVF P L
section
variable {S X X':ASt} {d k room nu sp lp mp s:Nat} {x y:Nat→Nat} {c:Bool} {P:AV} {L:List Nat}
theorem AtS.keep (h:AtS S X d k room nu sp lp mp x y c P L s) (hk:∀i,S.next≤i→i<X.next→X'.h.get i=X.h.get i) (ht:Tidy X') (hn:S.next≤X'.next):AtS S X' d k room nu sp lp mp x y c P L s :=
 ⟨by rw[hk sp h.los (h.tidy.lt h.st)];exact h.st,by rw[hk lp h.lol (h.tidy.lt h.lg)];exact h.lg,by rw[hk mp h.lom (h.tidy.lt h.mg)];exact h.mg,h.hot.keep hk h.tidy,h.los,h.lol,h.lom,ht,hn⟩
theorem AtS.row_ne (h:AtS S X d k room nu sp lp mp x y c P L s):∀p,p∈qVF P L→p.1≠sp∧p.1≠lp∧p.1≠mp:=fun p hp=>by
 obtain⟨q1,_,q3⟩:=qDy h.hot p hp;rw[q3] at q1;exact⟨qAu q1 h.st qLr,qAu q1 h.lg qH4,qAu q1 h.mg qWQ⟩
theorem AtS.marked (h:AtS S X d k room nu sp lp mp x y c P L s) {s':Nat} (hm:Mkd X X' mp k s'):AtS S X' d k room nu sp lp mp x y c P L s':=by
 have e1:sp≠mp:=qAu h.st h.mg (fun q=>qQ2 q.symm);have e2:lp≠mp:=qAu h.lg h.mg qQa;exact⟨by rw[hm.old sp e1];exact h.st,by rw[hm.old lp e2];exact h.lg,hm.at_,qG3 h.hot fun p hp=>by rw[hm.old p.1 (h.row_ne p hp).2.2];exact (qDy h.hot p hp).1,h.los,h.lol,h.lom,hm.tidy,Nat.le_trans h.next hm.next⟩
theorem AtS.nodup (h:AtS S X d k room nu sp lp mp x y c P L s):((atE d k room nu sp lp mp x y c P L s).map (·.1)).Nodup:=by
 have e1:sp≠mp:=qAu h.st h.mg (fun q=>qQ2 q.symm);have e2:lp≠mp:=qAu h.lg h.mg qQa;have e3:sp≠lp:=qAu h.st h.lg (fun q=>qQ9 q.symm);have hr:=h.row_ne;unfold atE;rcases qT9 P L with e | ⟨p,e⟩
 ·rw[e];simp[e1,e2,e3]
 ·rw[e] at hr ⊢;obtain⟨a1,a2,a3⟩:=hr p (List.mem_singleton_self _);simp[e1,e2,e3,Ne.symm a1,Ne.symm a2,Ne.symm a3]
theorem AtS.at_ (h:AtS S X d k room nu sp lp mp x y c P L s):∀p,p∈atE d k room nu sp lp mp x y c P L s→X.h.get p.1=some p.2∧S.next≤p.1:=fun p hp=>by
 unfold atE at hp;rcases List.mem_cons.1 hp with rfl | hp
 ·exact⟨h.st,h.los⟩
 rcases List.mem_cons.1 hp with rfl | hp
 ·exact⟨h.lg,h.lol⟩
 rcases List.mem_cons.1 hp with rfl | hp
 ·exact⟨h.mg,h.lom⟩
 ·obtain⟨q1,q2,_⟩:=qDy h.hot p hp;exact⟨q1,q2⟩
theorem sL_d {D:Nat→Prop} (x:Nat→Nat) (c:Bool):qBp D (sL x c):=qAk.2 fun v hv=>by
 simp only[sL,List.mem_cons,List.not_mem_nil,or_false] at hv;rcases hv with rfl | rfl | rfl | rfl | rfl | rfl | rfl<;>trivial
theorem rL_d {D:Nat→Prop} (y:Nat→Nat):qBp D (rL y):=qAk.2 fun v hv=>by
 simp only[rL,List.mem_cons,List.not_mem_nil,or_false] at hv;rcases hv with rfl | rfl | rfl | rfl | rfl | rfl | rfl | rfl | rfl | rfl | rfl | rfl | rfl | rfl | rfl | rfl | rfl | rfl | rfl<;>trivial
theorem AtS.refs (h:AtS S X d k room nu sp lp mp x y c P L s) (hd:Go.Ax.Good S d):∀p,p∈atE d k room nu sp lp mp x y c P L s→Go.Ax.Good S p.1∧qHB (Go.Ax.Good S) p.2:=fun p hp=>by
 refine⟨.inl (h.at_ p hp).2,?_⟩;unfold atE at hp;rcases List.mem_cons.1 hp with rfl | hp
 ·show qBp _ _;unfold stL;refine⟨hd,trivial,qAk.2 fun v hv=>?_⟩;rcases List.mem_append.1 hv with hv | hv
  ·exact qAk.1 (sL_d x c) v hv
  rcases List.mem_cons.1 hv with rfl | hv
  ·exact .inl h.lol
  rcases List.mem_cons.1 hv with rfl | hv
  ·exact .inl h.lom
  rcases List.mem_append.1 hv with hv | hv
  ·exact qAk.1 (rL_d y) v hv
  ·rw[List.mem_singleton.1 hv];trivial
 rcases List.mem_cons.1 hp with rfl | hp
 ·exact⟨hd,trivial,trivial,trivial,trivial,qD9.refs h.hot (Nat.le_refl _),trivial⟩
 rcases List.mem_cons.1 hp with rfl | hp
 ·exact⟨trivial,trivial,trivial⟩
 ·rw[(qDy h.hot p hp).2.2];exact qUc _
theorem AtS.of (h:AtS S X d k room nu sp lp mp x y c P L s) (h':∀p,p∈atE d k room nu sp lp mp x y c P L s→X'.h.get p.1=some p.2) (ht:Tidy X') (hn:S.next≤X'.next):AtS S X' d k room nu sp lp mp x y c P L s :=
 ⟨h' (sp,_) List.mem_cons_self,h' (lp,_) (List.mem_cons_of_mem _ List.mem_cons_self),h' (mp,_) (List.mem_cons_of_mem _ (List.mem_cons_of_mem _ List.mem_cons_self)),qG3 h.hot fun p hp=>h' p (List.mem_cons_of_mem _ (List.mem_cons_of_mem _ (List.mem_cons_of_mem _ hp))),h.los,h.lol,h.lom,ht,hn⟩
end
section
variable {S X0 X:ASt} {d k room nu sp lp mp s r:Nat} {x y:Nat→Nat} {c:Bool} {P:AV} {L R:List Nat}
end
noncomputable def fA3 (d sp:Nat):AFr:=xFr [(0,.ptr (some (d,0))),(9,.ptr (some (sp,0)))] 134
section
variable {S X0 X:ASt} {d k room nu sp lp mp s r:Nat} {x y:Nat→Nat} {c:Bool} {P:AV} {L R:List Nat}
end
theorem Trip.cut {P:Program} {kb:Nat} {ro:Option Nat} {c:Code} {fr fr':AFr} {st:ASt} {Q:qz2} (kf:List Nat) (e:canF kf fr=fr') (h:Trip P kb ro c fr' st Q):Trip P kb ro c fr st Q:=Trip.less (e▸Wk.canF kb kf fr st) h
noncomputable def fA1 (d k sp:Nat):AFr:=xFr [(0,.ptr (some (d,0))),(1,.int .i64 (.ofNat k)),(9,.ptr (some (sp,0)))] 134
noncomputable def fA4 (d sp:Nat) (c:Bool):AFr:=xFr [(0,.ptr (some (d,0))),(9,.ptr (some (sp,0))),(98,.bool c)] 134
noncomputable def fA9 (sp:Nat):AFr:=xFr [(9,.ptr (some (sp,0)))] 134
theorem sh25:qAg 7 c25=.seq (seqL (qAg 7 c25)) (.seq (.seq (seqL (seqL (qAg 8 c25))) (.cond (.tmp 98) B25 .skip)) (qAg 9 c25)):=by kernel_rfl
structure Pre (S X:ASt) (d k room nu sp lp:Nat) (x y:Nat→Nat) (c:Bool) (P:AV) (L:List Nat):Prop where
 st:X.h.get sp=some (stO d k x c (.ptr (some (lp,0))) (.ptr none) y)
 lg:X.h.get lp=some (qB7 d room nu P)
 hot:qD9 S.next X P L
 los:S.next≤sp
 lol:S.next≤lp
 tidy:Tidy X
 next:S.next≤X.next
 old:∀i,i<S.next→X.h.get i=S.h.get i
section
variable {S X:ASt} {d k room nu sp lp mp:Nat} {x y:Nat→Nat} {c:Bool} {A M P:AV} {L:List Nat}
theorem q1y (h:S.h.get sp=some (stO d k x c A M y)) {v:AV} (hv:v.isCell=true):Option.map (fun s=>(qAC,s)) (qAL EAu 134 (.ptr (some (sp,9))) v S)=some (.tuple [],S.put sp (stO d k x c v M y)):=qAz (qBk (j:=9) (by kernel_rfl) h (by show 9<31;decide) hv)
theorem q1x (h:S.h.get sp=some (stO d k x c A M y)) {v:AV} (hv:v.isCell=true):Option.map (fun s=>(qAC,s)) (qAL EAu 73 (.ptr (some (sp,10))) v S)=some (.tuple [],S.put sp (stO d k x c A v y)):=qAz (qBk (j:=10) (by kernel_rfl) h (by show 10<31;decide) hv)
theorem Pre.away (h:Pre S X d k room nu sp lp x y c P L):lp≠sp∧∀p,p∈qVF P L→p.1≠sp∧p.1≠lp:=by
 refine⟨qAu h.lg h.st qQ9,fun p hp=>?_⟩;obtain⟨q1,_,q3⟩:=qDy h.hot p hp;rw[q3] at q1;exact⟨qAu q1 h.st qLr,qAu q1 h.lg qH4⟩
end
section
variable {q:CallT} {H:List Nat→Nat→Nat} {S X:ASt} {d k room nu sp lp mp kb:Nat} {x y:Nat→Nat} {c:Bool} {P:AV} {L:List Nat} {las:List (List Nat)} {es:List dsk.En}
theorem qWm (hS:Sums q H) (hD:Dsk X d las es) (hn:las.length=9+k) (h1:1≤k) (h2:k≤64) (hse:mX H (nb las es 4)<18446744073709551616) (hm:mkM H (nb las es) k=true) (h:Pre S X d k room nu sp lp x y c P L) :
  ∃mp Z,(Trip Tryz.prog kb none (seqL (qAg 7 c25)) (fA1 d k sp) X fun z=>z=(.normal,fA3 d sp,Z))∧AtS S Z d k room nu sp lp mp x y c P L (mX H (nb las es 4))∧∀i,i<S.next→Z.h.get i=S.h.get i:=by
 obtain⟨S1,w1,o1⟩:=qT1 hS hD hn h1 h2 hse hm;have st1:S1.h.get sp=some (stO d k x c (.ptr (some (lp,0))) (.ptr none) y):=(o1.old sp (h.tidy.lt h.st)).trans h.st;obtain⟨S2,e2⟩:∃Y,Y=S1.put sp (stO d k x c (.ptr (some (lp,0))) (.ptr (some (X.next,0))) y):=⟨_,rfl⟩;have hsp:=h.tidy.lt h.st;have hlp:=h.tidy.lt h.lg;obtain⟨ne,ner⟩:=h.away;have n2:S2.next=S1.next:=by rw[e2];rfl
 refine⟨X.next,S2,Trip.ofR qBn (qAG (qAJ w1)) (kf:=[0,9]) (Q1:=fun z=>z=(.normal,fA3 d sp,S2)) (Eq.mp (vcAb _ d k sp X.next X S1 S2 (fun z=>z=(.normal,fA3 d sp,S2))) ⟨ca qA6,by rw[e2];exact q1x st1 rfl,rfl⟩) (fun e F Y hz=>hz),⟨by rw[e2];exact qAl,?_,?_,?_,h.los,h.lol,h.next,?_,?_⟩,fun i hi=>?_⟩
 ·rw[e2,qA3 ne,o1.old lp hlp];exact h.lg
 ·rw[e2,qA3 (by omega)];exact (o1.loc 0 (X.next,qGR k (mX H (nb las es 4))) rfl).2
 ·refine qG3 h.hot fun p hp=>?_;obtain⟨q1,_,_⟩:=qDy h.hot p hp;rw[e2,qA3 (ner p hp).1,o1.old p.1 (h.tidy.lt q1)];exact q1
 ·rw[e2];exact o1.tidy.put (o1.tidy.lt st1)
 ·rw[n2];exact Nat.le_trans h.next o1.next
 ·have:=h.los;have hn':=h.next;rw[e2,qA3 (by omega),o1.old i (by omega)];exact h.old i hi
end
end atu
end Go.Proofs.YtiafochainjglaaGreatDoor.drp
