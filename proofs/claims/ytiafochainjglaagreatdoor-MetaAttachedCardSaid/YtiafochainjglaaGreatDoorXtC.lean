/-
  OWN WORK, A PART: an abstract machine for the program's text that the kernel can run, and the proof that it is sound: what it answers is what the program answers; contracts of functions by it. No condition.
-/
import Derived.Test.YtiafochainjglaaGreatDoorXtB
import Derived.Test.YtiafochainjglaaGreatDoorXtA
section
open Go Go.Ax Go.Proofs
namespace Go.Proofs.YtiafochainjglaaGreatDoor.drp.atu
set_option linter.unusedVariables false
open oo cd cd2 cd3 cd4 cd5 cd9 pu atc
noncomputable def fO1 (d room lp h:Nat):AFr:=xFr [(0,.ptr (some (d,0))),(1,.int .i64 (.ofNat 5)),(2,.int .i64 (.ofNat 4)),(3,.int .i64 (.ofNat room)),(11,.ptr (some (lp,0))),(12,.int .u16 (.ofNat h))] 117
noncomputable def fO2 (d room lp h i:Nat):AFr:=xFr [(0,.ptr (some (d,0))),(1,.int .i64 (.ofNat 5)),(2,.int .i64 (.ofNat 4)),(3,.int .i64 (.ofNat room)),(11,.ptr (some (lp,0))),(12,.int .u16 (.ofNat h)),(42,.int .i64 (.ofNat 4)),(43,.int .i64 (.ofNat i))] 117
noncomputable def fO3 (room lp h:Nat):AFr:=xFr [(3,.int .i64 (.ofNat room)),(11,.ptr (some (lp,0))),(12,.int .u16 (.ofNat h))] 117
noncomputable def fO4 (room lp h x:Nat):AFr:=xFr [(3,.int .i64 (.ofNat room)),(11,.ptr (some (lp,0))),(12,.int .u16 (.ofNat h)),(88,.int .i64 (.ofNat x))] 117
theorem sh79:dropC 5 c79=.seq (.seq (seqL (seqL (dropC 5 c79))) (.block 0 (.loop L79a))) (.seq (.seq (seqL (seqL (dropC 6 c79))) (.block 2 (.loop L79b))) (dropC 7 c79)):=by kernel_rfl
theorem cvtU {a:Nat} {Y:ASt} (h:a<1000000):aConvert EAu 24 3 (.int .u64 (.ofNat a)) Y=some (.int .i64 (.ofNat a),Y):=by
 have e:aConvert EAu 24 3 (.int .u64 (.ofNat a)) Y=some (.int .i64 (wrapF .i64 (.ofNat a)),Y):=by kernel_rfl
 rw[wrap_nat (by omega)] at e
 exact e
def outL (n g:Nat) (il:Bool):AV:=.tuple [.int .u64 (.ofNat n),.int .u16 (.ofNat g),.int .i64 (.ofNat (cond il 0 4))]
theorem slot_round {q:CallT} {kb d room lp nu h n g i:Nat} {il:Bool} {B:List Nat} {S X:ASt} (hq:CallsOK Tryz.prog q) (o:Ov S X [(lp,logO d room nu (.slice none 0 (.known 0)))])
  (hr:∀{l:List (Nat×AO)} (Y:ASt),Ov S Y l→q 56 [.ptr (some (d,0)),.int .i64 (.ofNat (5+i))] Y=some (.tuple [.agg (bl B),.int .i64 (.ofNat 0)],Y)) (hl:∀Y:ASt,q 59 [.agg (bl B)] Y=some (outL n g il,Y)) (hi:i<4) :
  ∃X',Ov S X' [(lp,logO d room (stepN i il n g nu h).1 (.slice none 0 (.known 0)))]∧Trip Tryz.prog kb none L79a (fO2 d room lp h i) X fun r=>r=(.normal,fO2 d room lp (stepN i il n g nu h).2 (i+1),X'):=by
 obtain⟨S1,e1,o1⟩:=o.add (.cells (bl []) true)
 obtain⟨S2,e2,o2⟩:=o1.stA (E:=EAu) (t:=54) (i:=1) (k:=X.next) (o:=0) (z:=256) (vs:=bl B) [] (bl []) [] (by kernel_rfl) (by kernel_rfl) rfl (bl_len _) (bl_len _)
 have c1:=lT (E:=EAu) (Y:=X) (t:=3) (k:=.i64) (a:=i) (b:=4) (x:=.tmp 43) (y:=.tmp 42) hi
 have c2:=opAdd (E:=EAu) (Y:=X) (t:=3) (a:=5) (b:=i) (x:=.tmp 48) (y:=.tmp 49) (by omega)
 have ld:aLoad EAu 54 (.ptr (some (X.next,0))) S2=some (.agg (bl B),S2):=o2.ldA (i:=1) (z:=256) (cs:=bl B) (by kernel_rfl) (by kernel_rfl) takeL_bl
 have g2:S2.h.get lp=some (logO d room nu (.slice none 0 (.known 0))):=(o2.loc 0 (lp,logO d room nu (.slice none 0 (.known 0))) (by kernel_rfl)).2
 have o2':Ov S S2 [(lp,logO d room nu (.slice none 0 (.known 0)))]:=o2.only0 (by kernel_rfl)
 have inc:∀Y:ASt,still Y (aBin EAu .add 3 (.tmp 43) (.const (.int .i64 1)) (.int .i64 (.ofNat i)) (.int .i64 (.ofNat 1)))=some (.int .i64 (.ofNat (i+1)),Y):=fun Y=>opAdd (by omega)
 have hl':=hl S2
 unfold outL at hl'
 unfold stepN
 cases il with
 | false =>
  exact⟨S2,o2',Trip.ofR EAuok (onlyC_ok hq) (kf:=[0,1,2,3,11,12,42,43]) (Q1:=fun r=>r=(.normal,fO2 d room lp h (i+1),S2)) (Eq.mp (vcOc q d room lp h i X.next n g B X S1 S2 (fun r=>r=(.normal,fO2 d room lp h (i+1),S2))) ⟨c1,c2,ca (hr _ o),o.al e1,e2,ld,ca hl',inc _,rfl⟩) (fun e F Y hz=>hz)⟩
 | true =>
  by_cases h1:nu<n
  ·by_cases h2:n % 4=i
   ·rw[decide_eq_true h1,decide_eq_true h2]
    obtain⟨S3,e3⟩:∃Y,Y=S2.put lp (logO d room n (.slice none 0 (.known 0))):=⟨_,rfl⟩
    have o3:=o2'.put 0 lp (logO d room n (.slice none 0 (.known 0))) _ rfl
    rw[←e3] at o3
    exact⟨S3,o3,Trip.ofR EAuok (onlyC_ok hq) (kf:=[0,1,2,3,11,12,42,43]) (Q1:=fun r=>r=(.normal,fO2 d room lp g (i+1),S3)) (Eq.mp (vcOf q d room lp h i X.next n g nu B X S1 S2 S3 (fun r=>r=(.normal,fO2 d room lp g (i+1),S3))) ⟨c1,c2,ca (hr _ o),o.al e1,e2,ld,ca hl',lld4 g2,gT h1,opRem (by decide),cvtU (by omega),eT h2,by rw[e3];exact lst4 g2 n,inc _,rfl⟩) (fun e F Y hz=>hz)⟩
   ·rw[decide_eq_true h1,decide_eq_false h2]
    exact⟨S2,o2',Trip.ofR EAuok (onlyC_ok hq) (kf:=[0,1,2,3,11,12,42,43]) (Q1:=fun r=>r=(.normal,fO2 d room lp h (i+1),S2)) (Eq.mp (vcOe q d room lp h i X.next n g nu B X S1 S2 (fun r=>r=(.normal,fO2 d room lp h (i+1),S2))) ⟨c1,c2,ca (hr _ o),o.al e1,e2,ld,ca hl',lld4 g2,gT h1,opRem (by decide),cvtU (by omega),eF h2,inc _,rfl⟩) (fun e F Y hz=>hz)⟩
  ·rw[decide_eq_false h1]
   exact⟨S2,o2',Trip.ofR EAuok (onlyC_ok hq) (kf:=[0,1,2,3,11,12,42,43]) (Q1:=fun r=>r=(.normal,fO2 d room lp h (i+1),S2)) (Eq.mp (vcOd q d room lp h i X.next n g nu B X S1 S2 (fun r=>r=(.normal,fO2 d room lp h (i+1),S2))) ⟨c1,c2,ca (hr _ o),o.al e1,e2,ld,ca hl',lld4 g2,gF (by omega),inc _,rfl⟩) (fun e F Y hz=>hz)⟩
structure LI (S:ASt) (d room nu lp:Nat) (L:List Nat) (s:AV×ASt):Prop where
 log:s.2.h.get lp=some (logO d room nu s.1)
 hot:HotP S.next s.2 s.1 L
 tidy:Tidy s.2
 next:S.next≤s.2.next
 old:∀k,k<S.next→s.2.h.get k=S.h.get k
theorem bit_round {kb d room lp nu h x:Nat} {S:ASt} {s:AV×ASt} (hx:x<16) (hlp:S.next≤lp) (I:LI S d room nu lp (hotL h room x) s) :
  ∃s',(Trip Tryz.prog kb none L79b (fO4 room lp h x) s.2 fun r=>r=(.normal,fO4 room lp h (x+1),s'.2))∧LI S d room nu lp (hotL h room (x+1)) s':=by
 obtain⟨P,X⟩:=s
 have log:X.h.get lp=some (logO d room nu P):=I.log
 have hot:HotP S.next X P (hotL h room x):=I.hot
 have c1:=lT (E:=EAu) (Y:=X) (t:=3) (k:=.i64) (a:=x) (b:=16) (x:=.tmp 88) (y:=.const (.int .i64 16)) hx
 have c2:=opShr (E:=EAu) (Y:=X) (t:=34) (k:=.u16) (k2:=.i64) (a:=h) (b:=x) (x:=.tmp 91) (y:=.tmp 92) (show x≤16 by omega)
 have c3:=opAnd16 (E:=EAu) (Y:=X) (t:=34) (a:=h / 2 ^ x) (x:=.tmp 93) (y:=.const (.int .u16 1))
 have inc:∀Y:ASt,still Y (aBin EAu .add 3 (.tmp 88) (.const (.int .i64 1)) (.int .i64 (.ofNat x)) (.int .i64 (.ofNat 1)))=some (.int .i64 (.ofNat (x+1)),Y):=fun Y=>opAdd (by omega)
 have hll:=(hotL_len h room x).2
 by_cases hb:h / 2 ^ x % 2=1
 ·by_cases hr:(hotL h room x).length<room
  ·obtain⟨P2,X2,ap,hot2,t2,n2,k2⟩:=growG apU hot I.tidy I.next x (by omega)
   have l2:X2.h.get lp=some (logO d room nu P):=(k2 lp (I.tidy.lt log) (.inr ⟨_,_,_,_,log⟩)).trans log
   have e:hotL h room (x+1)=hotL h room x++[x]:=if_pos ⟨hb,hr⟩
   rw[e]
   refine⟨(P2,X2.put lp (logO d room nu P2)),Trip.ofR EAuok noSum_ok (kf:=[3,11,12,88]) (Q1:=fun r=>r=(.normal,fO4 room lp h (x+1),X2.put lp (logO d room nu P2))) (Eq.mp (vcOk room lp h x _ P (.slice (some (X.next,0)) 1 (.known 1)) P2 X (X.add (.cells [.int .i64 (.ofNat x)] true)) X2 (X2.put lp (logO d room nu P2)) (fun r=>r=(.normal,fO4 room lp h (x+1),X2.put lp (logO d room nu P2))))
    ⟨c1,c2,c3,eT hb,lld5 log,hot.len,lT hr,lld5 log,by kernel_rfl,ap,lst5 l2 (HotP.cell hot2),inc _,rfl⟩) (fun e F Y hz=>hz),⟨put_at,HotP.put hot2 l2,t2.put (t2.lt l2),?_,fun k hk=>?_⟩⟩
   ·show S.next≤X2.next
    exact Nat.le_trans I.next n2
   ·show (X2.put lp _).h.get k=_
    have hkX:k<X.next:=Nat.lt_of_lt_of_le hk I.next
    rw[put_ne (by omega),k2 k hkX (.inl hk)]
    exact I.old k hk
  ·have e:hotL h room (x+1)=hotL h room x:=if_neg (fun q=>hr q.2)
   rw[e]
   exact⟨(P,X),Trip.ofR EAuok noSum_ok (kf:=[3,11,12,88]) (Q1:=fun r=>r=(.normal,fO4 room lp h (x+1),X)) (Eq.mp (vcOj room lp h x _ P X (fun r=>r=(.normal,fO4 room lp h (x+1),X))) ⟨c1,c2,c3,eT hb,lld5 log,hot.len,lF (by omega),inc _,rfl⟩) (fun e F Y hz=>hz),I⟩
 ·have e:hotL h room (x+1)=hotL h room x:=if_neg (fun q=>hb q.1)
  rw[e]
  exact⟨(P,X),Trip.ofR EAuok noSum_ok (kf:=[3,11,12,88]) (Q1:=fun r=>r=(.normal,fO4 room lp h (x+1),X)) (Eq.mp (vcOi room lp h x X (fun r=>r=(.normal,fO4 room lp h (x+1),X))) ⟨c1,c2,c3,eF hb,inc _,rfl⟩) (fun e F Y hz=>hz),I⟩
section
variable {q:CallT} {H:List Nat→Nat→Nat} {S:ASt} {d k room:Nat} {las:List (List Nat)} {es:List dsk.En}
theorem open_at (hS:Sums q H) (hD:Dsk S d las es) (hn:las.length=9+k) (h1:1≤k) (h2:k≤64) (hr1:1≤room) (hr2:room≤16) :
  ∃P S',Call1 Tryz.prog 79 [.ptr (some (d,0)),.int .i64 (.ofNat 5),.int .i64 (.ofNat 4),.int .i64 (.ofNat room)] S (.tuple [.ptr (some (S.next,0)),.int .i64 (.ofNat 0)],S')∧LI S d room (hotF H (nb las es) 4).1 S.next (hotL (hotF H (nb las es) 4).2 room 16) (P,S'):=by
 have ht:=hD.tidy
 have hokA:=oneC_ok (lmay_at hD hn h2)
 have hokB:=orC_ok (diskC_ok (d:=d) (las:=las) (es:=es)) (blkC_ok (lo_at hS))
 obtain⟨QB,hQB⟩:∃Q,Q=orC (diskC d las es) (blkC 59 (outLo H)):=⟨_,rfl⟩
 rw[←hQB] at hokB
 obtain⟨S1,e1,o1⟩:=(Ov.nil ht).add (logO d room 0 (.slice none 0 (.known 0)))
 -- the slots
 obtain⟨T,hT0,hT⟩:=chainG (α:=ASt) (Inv:=fun i X=>Ov S X [(S.next,logO d room (hotF H (nb las es) i).1 (.slice none 0 (.known 0)))]) (R:=fun i X X'=>Trip Tryz.prog S.next none L79a (fO2 d room S.next (hotF H (nb las es) i).2 i) X fun r=>r=(.normal,fO2 d room S.next (hotF H (nb las es) (i+1)).2 (i+1),X')) o1 4 (fun i X hi o=>by
  obtain⟨X',g1,g2⟩:=slot_round (kb:=S.next) (h:=(hotF H (nb las es) i).2) (B:=nb las es (5+i)) (n:=lN H (nb las es (5+i))) (g:=lS H (nb las es (5+i))) (il:=iL H (nb las es (5+i))) hokB o (fun Y oY=>by rw[hQB];exact orC_l (diskC_r (hD.over oY) (by omega))) (fun Y=>by rw[hQB];exact orC_r (diskC_no (by decide) (by decide)) (blkC_at (hD.bk _) Y)) hi
  exact⟨X',g2,g1⟩)
 obtain⟨nu,hnu⟩:∃nu,nu=(hotF H (nb las es) 4).1:=⟨_,rfl⟩
 obtain⟨h,hh⟩:∃h,h=(hotF H (nb las es) 4).2:=⟨_,rfl⟩
 have o4:Ov S (T 4) [(S.next,logO d room nu (.slice none 0 (.known 0)))]:=by rw[hnu];exact (hT 3 (by decide)).2.2
 -- the bits
 have i0:LI S d room nu S.next (hotL h room 0) (.slice none 0 (.known 0),T 4):=⟨(o4.loc 0 _ rfl).2,.inl ⟨rfl,rfl⟩,o4.tidy,o4.next,o4.old⟩
 obtain⟨V,hV0,hV⟩:=chainG (R:=fun (x:Nat) (s s':AV×ASt)=>Trip Tryz.prog S.next none L79b (fO4 room S.next h x) s.2 fun r=>r=(.normal,fO4 room S.next h (x+1),s'.2)) i0 16 (fun x s hx I=>bit_round hx (Nat.le_refl _) I)
 have iN:LI S d room nu S.next (hotL h room 16) (V 16):=(hV 15 (by decide)).2.2
 rw[←hnu,←hh]
 have hrun:Trip Tryz.prog S.next none c79 {m:=putArgs [.ptr (some (d,0)),.int .i64 (.ofNat 5),.int .i64 (.ofNat 4),.int .i64 (.ofNat room)] 0 .e,n:=117,defs:=[]} S fun r=>r=(.ret,xFr [(8,.ptr (some (S.next,0))),(9,.int .i64 (.ofNat 0))] 117,(V 16).2):=by
  refine Trip.preR EAuok (onlyC_ok hokA) (k:=5) (kf:=[0,1,2,3,11,12]) (by kernel_rfl) (Q1:=fun z=>z=(.normal,fO1 d room S.next 0,S1)) (Eq.mp (vcOa _ d room S.next S S1 (fun z=>z=(.normal,fO1 d room S.next 0,S1))) ⟨ca oneC_at,lF hr1,gF hr2,by rw[e1];rfl,rfl⟩) ?_ (fun z h1 h2=>absurd (congrArg (·.1) h2) h1)
  rintro F Y hY
  cases hY
  rw[sh79]
  refine Trip.then (F:=fO3 room S.next h) (Z:=T 4) ?_ ?_
  ·refine Trip.then (F:=fO2 d room S.next 0 0) (Z:=S1) (Trip.ofR EAuok noSum_ok (kf:=[0,1,2,3,11,12,42,43]) (Q1:=fun z=>z=(.normal,fO2 d room S.next 0 0,S1)) (Eq.mp (vcOb d room S.next 0 S1 (fun z=>z=(.normal,fO2 d room S.next 0 0,S1))) rfl) (fun e F Y hz=>hz)) ?_
   have:=Trip.turns (P:=Tryz.prog) (kb:=S.next) (ro:=none) (L:=L79a) (id:=0) (n:=4) (T:=fun i=>(fO2 d room S.next (hotF H (nb las es) i).2 i,T i)) (F:=fO3 room S.next h) (Z:=T 4) (fun i hi=>(hT i hi).2.1) (Trip.ofR EAuok noSum_ok (kf:=[3,11,12]) (Q1:=fun z=>z=(.exit 0,fO3 room S.next h,T 4)) (by rw[←hh];exact (Eq.mp (vcOg d room S.next h 4 (T 4) (fun z=>z=(.exit 0,fO3 room S.next h,T 4))) ⟨lF (Nat.le_refl _),rfl⟩)) (fun e F Y hz=>hz))
   simp only[hT0] at this
   exact this
  ·refine Trip.then (F:=xFr [(11,.ptr (some (S.next,0)))] 117) (Z:=(V 16).2) ?_ (Trip.ofR EAuok noSum_ok (kf:=[8,9]) (Q1:=fun z=>z=(.ret,xFr [(8,.ptr (some (S.next,0))),(9,.int .i64 (.ofNat 0))] 117,(V 16).2)) (Eq.mp (vcOm S.next (V 16).2 (fun z=>z=(.ret,xFr [(8,.ptr (some (S.next,0))),(9,.int .i64 (.ofNat 0))] 117,(V 16).2))) rfl) (fun e F Y hz=>hz))
   refine Trip.then (F:=fO4 room S.next h 0) (Z:=T 4) (Trip.ofR EAuok noSum_ok (kf:=[3,11,12,88]) (Q1:=fun z=>z=(.normal,fO4 room S.next h 0,T 4)) (Eq.mp (vcOh room S.next h (T 4) (fun z=>z=(.normal,fO4 room S.next h 0,T 4))) rfl) (fun e F Y hz=>hz)) ?_
   have:=Trip.turns (P:=Tryz.prog) (kb:=S.next) (ro:=none) (L:=L79b) (id:=2) (n:=16) (T:=fun x=>(fO4 room S.next h x,(V x).2)) (F:=xFr [(11,.ptr (some (S.next,0)))] 117) (Z:=(V 16).2) (fun x hx=>(hV x hx).2.1) (Trip.ofR EAuok noSum_ok (kf:=[11]) (Q1:=fun z=>z=(.exit 2,xFr [(11,.ptr (some (S.next,0)))] 117,(V 16).2)) (Eq.mp (vcOl room S.next h 16 (V 16).2 (fun z=>z=(.exit 2,xFr [(11,.ptr (some (S.next,0)))] 117,(V 16).2))) ⟨lF (Nat.le_refl _),rfl⟩) (fun e F Y hz=>hz))
   simp only[hV0] at this
   exact this
 have hlv:∀{Z:ASt},leaveA EAu Tryz.f79 (xFr [(8,.ptr (some (S.next,0))),(9,.int .i64 (.ofNat 0))] 117) Z=some (.tuple [.ptr (some (S.next,0)),.int .i64 (.ofNat 0)],Z):=fun {Z}=>leave_of (rs:=[.tmp 8,.tmp 9]) (by kernel_rfl) rfl (res_tmp (by kernel_rfl) (res_tmp (by kernel_rfl) res_nil)) rfl
 have hv:refsD (Go.Ax.Good S) (.tuple [.ptr (some (S.next,0)),.int .i64 (.ofNat 0)]):=⟨.inl (Nat.le_refl _),trivial,trivial⟩
 have hdG:Go.Ax.Good S d:=by
  obtain⟨l,m,ck,hdk⟩:=hD.ex
  exact .inr ⟨_,hdk.hd,by unfold dsk.dK;simp⟩
 have gl:refsB (Go.Ax.Good S) (logO d room nu (V 16).1):=⟨hdG,trivial,trivial,trivial,trivial,HotP.refs iN.hot (Nat.le_refl _),trivial⟩
 rcases iN.hot with⟨e,e'⟩ | ⟨r,f0,f1,f2,f3⟩
 ·have gd:∀p,p∈[(S.next,logO d room nu (V 16).1)]→Go.Ax.Good S p.1∧refsB (Go.Ax.Good S) p.2:=fun p hp=>by rw[List.mem_singleton.1 hp];exact⟨.inl (Nat.le_refl _),gl⟩
  have ga:∀p,p∈[(S.next,logO d room nu (V 16).1)]→(V 16).2.h.get p.1=some p.2:=fun p hp=>by rw[List.mem_singleton.1 hp];exact iN.log
  obtain⟨S',w1,w2,w3⟩:=Call1.ends EAuok (fn:=Tryz.f79) (c:=c79) (by kernel_rfl) (by kernel_rfl) (by kernel_rfl) (N:=117) (by kernel_rfl) (L:=[(S.next,logO d room nu (V 16).1)]) ht (by simp) iN.next (fun p hp=>iN.tidy.lt (ga p hp)) gd hv
   (hrun.mono fun z hz=>by subst hz;exact⟨.inr rfl,_,hlv,⟨ga,gd,fun k hk _=>iN.old k hk⟩,Nat.le_refl _⟩)
  exact⟨(V 16).1,S',w1,w2.at_ _ (List.mem_singleton_self _),.inl ⟨e,e'⟩,w2.tidy,w2.next,fun k hk=>w2.old k (fun p hp=>by rw[List.mem_singleton.1 hp];show S.next≠k;omega)⟩
 ·have hne:S.next≠r:=fun q=>ne_get f3 iN.log rowI_ne q.symm
  have gd:∀p,p∈[(S.next,logO d room nu (V 16).1),(r,AO.cells (rowI (hotL h room 16)) true)]→Go.Ax.Good S p.1∧refsB (Go.Ax.Good S) p.2:=fun p hp=>by
   rcases List.mem_cons.1 hp with rfl | hp
   ·exact⟨.inl (Nat.le_refl _),gl⟩
   ·rw[List.mem_singleton.1 hp];exact⟨.inl f2,rowI_d _⟩
  have ga:∀p,p∈[(S.next,logO d room nu (V 16).1),(r,AO.cells (rowI (hotL h room 16)) true)]→(V 16).2.h.get p.1=some p.2:=fun p hp=>by
   rcases List.mem_cons.1 hp with rfl | hp
   ·exact iN.log
   ·rw[List.mem_singleton.1 hp];exact f3
  obtain⟨S',w1,w2,w3⟩:=Call1.ends EAuok (fn:=Tryz.f79) (c:=c79) (by kernel_rfl) (by kernel_rfl) (by kernel_rfl) (N:=117) (by kernel_rfl) (L:=[(S.next,logO d room nu (V 16).1),(r,AO.cells (rowI (hotL h room 16)) true)]) ht (by simp[hne]) iN.next (fun p hp=>iN.tidy.lt (ga p hp)) gd hv
   (hrun.mono fun z hz=>by subst hz;exact⟨.inr rfl,_,hlv,⟨ga,gd,fun k hk _=>iN.old k hk⟩,Nat.le_refl _⟩)
  exact⟨(V 16).1,S',w1,w2.at_ _ List.mem_cons_self,.inr ⟨r,f0,f1,f2,w2.at_ _ (List.mem_cons_of_mem _ (List.mem_singleton_self _))⟩,w2.tidy,w2.next,fun k hk=>w2.old k (fun p hp=>by
   rcases List.mem_cons.1 hp with rfl | hp
   ·show S.next≠k;omega
   ·rw[List.mem_singleton.1 hp];show r≠k;omega)⟩
end
end Go.Proofs.YtiafochainjglaaGreatDoor.drp.atu
end

section
open Go Go.Ax Go.Proofs
namespace Go.Proofs.YtiafochainjglaaGreatDoor.drp.atu
set_option linter.unusedVariables false
open oo cd cd2 cd3 cd4 cd5 cd9 pu atc
theorem Dv.dne {base d l m n c:Nat} {S0 S:ASt} {las:List (List Nat)} {es:List dsk.En} (h:Dv base S0 S d l m n c las es) (hn:0<n):d≠l∧d≠m∧l≠m:=by
 obtain⟨ck,hdk⟩:=h.dk
 refine⟨ne_get hdk.hd hdk.hl (fun hh=>?_),ne_get hdk.hd hdk.hm (by intro e;cases e),ne_get hdk.hl hdk.hm (by intro e;cases e)⟩
 unfold dsk.dK at hh
 injection hh with hh
 have hne:(dsk.rowB las)[0]? = some (cellU ((las.getD 0 []).getD 0 0)):=by
  cases hc0:las with
  | nil=>have:=h.len;rw[hc0] at this;simp at this;omega
  | cons x xs =>
   show (bl x++dsk.rowB xs)[0]? = _
   rw[List.getElem?_append_left (by rw[bl_len];decide),bl_get (by decide)];rfl
 rw[←hh] at hne
 cases hne
theorem Dv.lt {base d l m n c:Nat} {S0 S:ASt} {las:List (List Nat)} {es:List dsk.En} (h:Dv base S0 S d l m n c las es):d<S.next∧l<S.next∧m<S.next:=by
 obtain⟨ck,hdk⟩:=h.dk
 exact⟨h.tidy.lt hdk.hd,h.tidy.lt hdk.hl,h.tidy.lt hdk.hm⟩
theorem Dv.end_ {base d l m n c c':Nat} {S0 S S' Z:ASt} {las las':List (List Nat)} {es:List dsk.En} (h:Dv base S0 S d l m n c las es) (hZ:Dv base S0 Z d l m n c' las' []) (hn0:0<n)
  (hl:S'.h.get l=Z.h.get l) (hm:S'.h.get m=Z.h.get m) (ho:∀k,k<S.next→k≠l→k≠m→S'.h.get k=S.h.get k) (ht:Tidy S') (hn:S.next≤S'.next):Dv base S0 S' d l m n c' las' []:=by
 obtain⟨q1,q2,q3⟩:=Dv.dne h hn0
 obtain⟨p1,p2,p3⟩:=Dv.lt h
 obtain⟨ck,hdk⟩:=h.dk
 obtain⟨ck',hdz⟩:=hZ.dk
 have hll:las'.length=las.length:=by rw[hZ.len,h.len]
 refine⟨⟨ck',⟨by rw[ho d p1 q1 q2,hll];exact hdk.hd,by rw[hl];exact hdz.hl,by rw[hm];exact hdz.hm,fun e he=>(by cases he),List.nodup_nil,List.nodup_nil,hdz.most⟩⟩,h.llo,h.mlo,h.dlo,hZ.len,fun e he=>(by cases he),hZ.few,hZ.lby,hZ.vby,ht,by have:=h.next;omega,fun k hk=>?_⟩
 have a1:=h.llo
 have a2:=h.mlo
 have a3:=h.next
 rw[ho k (by omega) (by omega) (by omega)]
 exact h.same k hk
def hotE (P:AV) (L:List Nat):List (Nat×AO):=match P with
 | .slice (some (r,_)) _ _=>[(r,.cells (rowI L) true)]
 | _=>[]
section
variable {base:Nat} {S X X':ASt} {P:AV} {L:List Nat}
theorem hotE_at (h:HotP base X P L):∀p,p∈hotE P L→X.h.get p.1=some p.2∧base≤p.1∧p.2=.cells (rowI L) true:=fun p hp=>by
 rcases h with⟨rfl,rfl⟩ | ⟨r,_,rfl,h2,h3⟩
 ·cases hp
 ·rw[List.mem_singleton.1 hp];exact⟨h3,h2,rfl⟩
theorem hotE_of (h:HotP base X P L) (h':∀p,p∈hotE P L→X'.h.get p.1=some p.2):HotP base X' P L:=by
 rcases h with h | ⟨r,h0,rfl,h2,h3⟩
 ·exact .inl h
 ·exact .inr ⟨r,h0,rfl,h2,h' (r,.cells (rowI L) true) (List.mem_singleton_self _)⟩
theorem hotE_one (P:AV) (L:List Nat):hotE P L=[]∨∃p,hotE P L=[p]:=by
 unfold hotE
 split
 ·exact .inr ⟨_,rfl⟩
 ·exact .inl rfl
end
theorem rowI_nm {L:List Nat} {k s:Nat}:AO.cells (rowI L) true≠mapO k s:=fun h=>by
 unfold mapO at h
 injection h with h
 have:=congrArg (fun l:List AV=>l[1]?) h
 unfold rowI at this
 simp only[List.getElem?_map,List.getElem?_cons_succ,List.getElem?_cons_zero] at this
 cases hl:L[1]? with
 | none=>rw[hl] at this;cases this
 | some e=>rw[hl] at this;cases this
theorem rowI_ns {L:List Nat} {d k:Nat} {x y:Nat→Nat} {c:Bool} {A M:AV}:AO.cells (rowI L) true≠stO d k x c A M y:=fun h=>by
 unfold stO stL at h
 injection h with h
 cases L with
 | nil=>cases h
 | cons a L=>exact absurd (congrArg (fun l:List AV=>l.head?) h) (by intro q;cases q)
theorem log_nm {d room nu k s:Nat} {P:AV}:logO d room nu P≠mapO k s:=fun h=>by
 unfold logO mapO at h
 injection h with h
 cases h
theorem log_ns {d room nu d' k:Nat} {P A M:AV} {x y:Nat→Nat} {c:Bool}:logO d room nu P≠stO d' k x c A M y:=fun h=>by
 unfold logO stO stL at h
 injection h with h
 have:=congrArg List.length h
 simp[sL,rL] at this
theorem map_ns {d' k s k':Nat} {A M:AV} {x y:Nat→Nat} {c:Bool}:mapO k' s≠stO d' k x c A M y:=fun h=>by
 unfold mapO stO stL at h
 injection h with h
 cases h
structure AtS (S X:ASt) (d k room nu sp lp mp:Nat) (x y:Nat→Nat) (c:Bool) (P:AV) (L:List Nat) (s:Nat):Prop where
 st:X.h.get sp=some (stO d k x c (.ptr (some (lp,0))) (.ptr (some (mp,0))) y)
 lg:X.h.get lp=some (logO d room nu P)
 mg:X.h.get mp=some (mapO k s)
 hot:HotP S.next X P L
 los:S.next≤sp
 lol:S.next≤lp
 lom:S.next≤mp
 tidy:Tidy X
 next:S.next≤X.next
def atE (d k room nu sp lp mp:Nat) (x y:Nat→Nat) (c:Bool) (P:AV) (L:List Nat) (s:Nat):List (Nat×AO) :=
 (sp,stO d k x c (.ptr (some (lp,0))) (.ptr (some (mp,0))) y)::(lp,logO d room nu P)::(mp,mapO k s)::hotE P L
section
variable {S X X':ASt} {d k room nu sp lp mp s:Nat} {x y:Nat→Nat} {c:Bool} {P:AV} {L:List Nat}
theorem AtS.keep (h:AtS S X d k room nu sp lp mp x y c P L s) (hk:∀i,S.next≤i→i<X.next→X'.h.get i=X.h.get i) (ht:Tidy X') (hn:S.next≤X'.next):AtS S X' d k room nu sp lp mp x y c P L s :=
 ⟨by rw[hk sp h.los (h.tidy.lt h.st)];exact h.st,by rw[hk lp h.lol (h.tidy.lt h.lg)];exact h.lg,by rw[hk mp h.lom (h.tidy.lt h.mg)];exact h.mg,h.hot.keep hk h.tidy,h.los,h.lol,h.lom,ht,hn⟩
theorem AtS.row_ne (h:AtS S X d k room nu sp lp mp x y c P L s):∀p,p∈hotE P L→p.1≠sp∧p.1≠lp∧p.1≠mp:=fun p hp=>by
 obtain⟨q1,_,q3⟩:=hotE_at h.hot p hp
 rw[q3] at q1
 exact⟨ne_get q1 h.st rowI_ns,ne_get q1 h.lg rowI_ne,ne_get q1 h.mg rowI_nm⟩
theorem AtS.marked (h:AtS S X d k room nu sp lp mp x y c P L s) {s':Nat} (hm:Mkd X X' mp k s'):AtS S X' d k room nu sp lp mp x y c P L s':=by
 have e1:sp≠mp:=ne_get h.st h.mg (fun q=>map_ns q.symm)
 have e2:lp≠mp:=ne_get h.lg h.mg log_nm
 exact⟨by rw[hm.old sp e1];exact h.st,by rw[hm.old lp e2];exact h.lg,hm.at_,hotE_of h.hot fun p hp=>by rw[hm.old p.1 (h.row_ne p hp).2.2];exact (hotE_at h.hot p hp).1,h.los,h.lol,h.lom,hm.tidy,Nat.le_trans h.next hm.next⟩
theorem AtS.nodup (h:AtS S X d k room nu sp lp mp x y c P L s):((atE d k room nu sp lp mp x y c P L s).map (·.1)).Nodup:=by
 have e1:sp≠mp:=ne_get h.st h.mg (fun q=>map_ns q.symm)
 have e2:lp≠mp:=ne_get h.lg h.mg log_nm
 have e3:sp≠lp:=ne_get h.st h.lg (fun q=>log_ns q.symm)
 have hr:=h.row_ne
 unfold atE
 rcases hotE_one P L with e | ⟨p,e⟩
 ·rw[e];simp[e1,e2,e3]
 ·rw[e] at hr ⊢
  obtain⟨a1,a2,a3⟩:=hr p (List.mem_singleton_self _)
  simp[e1,e2,e3,Ne.symm a1,Ne.symm a2,Ne.symm a3]
theorem AtS.at_ (h:AtS S X d k room nu sp lp mp x y c P L s):∀p,p∈atE d k room nu sp lp mp x y c P L s→X.h.get p.1=some p.2∧S.next≤p.1:=fun p hp=>by
 unfold atE at hp
 rcases List.mem_cons.1 hp with rfl | hp
 ·exact⟨h.st,h.los⟩
 rcases List.mem_cons.1 hp with rfl | hp
 ·exact⟨h.lg,h.lol⟩
 rcases List.mem_cons.1 hp with rfl | hp
 ·exact⟨h.mg,h.lom⟩
 ·obtain⟨q1,q2,_⟩:=hotE_at h.hot p hp
  exact⟨q1,q2⟩
theorem sL_d {D:Nat→Prop} (x:Nat→Nat) (c:Bool):refsDs D (sL x c):=refsDs_all.2 fun v hv=>by
 simp only[sL,List.mem_cons,List.not_mem_nil,or_false] at hv
 rcases hv with rfl | rfl | rfl | rfl | rfl | rfl | rfl<;>trivial
theorem rL_d {D:Nat→Prop} (y:Nat→Nat):refsDs D (rL y):=refsDs_all.2 fun v hv=>by
 simp only[rL,List.mem_cons,List.not_mem_nil,or_false] at hv
 rcases hv with rfl | rfl | rfl | rfl | rfl | rfl | rfl | rfl | rfl | rfl | rfl | rfl | rfl | rfl | rfl | rfl | rfl | rfl | rfl<;>trivial
theorem AtS.refs (h:AtS S X d k room nu sp lp mp x y c P L s) (hd:Go.Ax.Good S d):∀p,p∈atE d k room nu sp lp mp x y c P L s→Go.Ax.Good S p.1∧refsB (Go.Ax.Good S) p.2:=fun p hp=>by
 refine⟨.inl (h.at_ p hp).2,?_⟩
 unfold atE at hp
 rcases List.mem_cons.1 hp with rfl | hp
 ·show refsDs _ _
  unfold stL
  refine⟨hd,trivial,refsDs_all.2 fun v hv=>?_⟩
  rcases List.mem_append.1 hv with hv | hv
  ·exact refsDs_all.1 (sL_d x c) v hv
  rcases List.mem_cons.1 hv with rfl | hv
  ·exact .inl h.lol
  rcases List.mem_cons.1 hv with rfl | hv
  ·exact .inl h.lom
  rcases List.mem_append.1 hv with hv | hv
  ·exact refsDs_all.1 (rL_d y) v hv
  ·rw[List.mem_singleton.1 hv];trivial
 rcases List.mem_cons.1 hp with rfl | hp
 ·exact⟨hd,trivial,trivial,trivial,trivial,HotP.refs h.hot (Nat.le_refl _),trivial⟩
 rcases List.mem_cons.1 hp with rfl | hp
 ·exact⟨trivial,trivial,trivial⟩
 ·rw[(hotE_at h.hot p hp).2.2]
  exact rowI_d _
theorem AtS.of (h:AtS S X d k room nu sp lp mp x y c P L s) (h':∀p,p∈atE d k room nu sp lp mp x y c P L s→X'.h.get p.1=some p.2) (ht:Tidy X') (hn:S.next≤X'.next):AtS S X' d k room nu sp lp mp x y c P L s :=
 ⟨h' (sp,_) List.mem_cons_self,h' (lp,_) (List.mem_cons_of_mem _ List.mem_cons_self),h' (mp,_) (List.mem_cons_of_mem _ (List.mem_cons_of_mem _ List.mem_cons_self)),hotE_of h.hot fun p hp=>h' p (List.mem_cons_of_mem _ (List.mem_cons_of_mem _ (List.mem_cons_of_mem _ hp))),h.los,h.lol,h.lom,ht,hn⟩
end
theorem oneC_nx {k f:Nat} {ar args:List AV} {S X:ASt} {r:AV×ASt} (h:X.next≠S.next):oneC k ar S r f args X=none:=by unfold oneC;rw[if_neg (fun x=>h (by rw[x.2.2]))]
structure MI (S X0 X:ASt) (d k room nu sp lp mp:Nat) (x y:Nat→Nat) (c:Bool) (P:AV) (L:List Nat) (r:Nat) (R:List Nat) (s:Nat):Prop where
 at_:AtS S X d k room nu sp lp mp x y c P L s
 row:X.h.get r=some (.cells (rowI R) true)
 nx:X0.next≤X.next
 old:∀i,i<S.next→X.h.get i=X0.h.get i
section
variable {S X0 X:ASt} {d k room nu sp lp mp s r:Nat} {x y:Nat→Nat} {c:Bool} {P:AV} {L R:List Nat}
theorem mk1 (h:MI S X0 X d k room nu sp lp mp x y c P L r R s) (hs:s<18446744073709551616) (h1:1≤k) (hk:k≤64) (j:Nat) :
  ∃e S2,Call1 Tryz.prog 35 [.ptr (some (mp,0)),.slice (some (X.next,0)) 1 (.known 1)] (X.add (.cells [.int .i64 (.ofNat j)] true)) (.int .i64 (.ofNat e),S2)∧MI S X0 S2 d k room nu sp lp mp x y c P L r R (mrk k s j)∧X.next<S2.next:=by
 obtain⟨S1,e1⟩:∃Y,Y=X.add (.cells [.int .i64 (.ofNat j)] true):=⟨_,rfl⟩
 have n1:S1.next=X.next+1:=by rw[e1];rfl
 have o1:∀i,i<X.next→S1.h.get i=X.h.get i:=fun i hi=>by rw[e1,add_ne (by omega)]
 have t1:Tidy S1:=by rw[e1];exact h.at_.tidy.add
 have a1:AtS S S1 d k room nu sp lp mp x y c P L s:=h.at_.keep (fun i _ hi=>o1 i hi) t1 (by have:=h.at_.next;omega)
 have g1:S1.h.get X.next=some (.cells [.int .i64 (.ofNat j)] true):=by rw[e1];exact add_at
 rw[←e1]
 obtain⟨e,S2,hc,hm⟩:=mark_at t1 a1.mg g1 hs h1 hk
 have hrX:=h.at_.tidy.lt h.row
 have hrm:r≠mp:=ne_get h.row h.at_.mg rowI_nm
 refine⟨e,S2,hc,⟨a1.marked hm,by rw[hm.old r hrm,o1 r hrX];exact h.row,by have:=h.nx;have:=hm.next;omega,fun i hi=>?_⟩,by have:=hm.next;omega⟩
 have:=h.at_.lom
 have hn:=h.at_.next
 rw[hm.old i (by omega),o1 i (by omega)]
 exact h.old i hi
end
end Go.Proofs.YtiafochainjglaaGreatDoor.drp.atu
end

section
open Go Go.Ax Go.Proofs
namespace Go.Proofs.YtiafochainjglaaGreatDoor.drp.atu
set_option linter.unusedVariables false
open oo cd cd2 cd3 cd4 cd5 cd9 pu atc
noncomputable def fA2 (d sp:Nat) (P:AV) (n i:Nat):AFr:=xFr [(0,.ptr (some (d,0))),(9,.ptr (some (sp,0))),(103,P),(104,.int .i64 (.ofNat n)),(105,.int .i64 (.ofNat i))] 134
noncomputable def fA3 (d sp:Nat):AFr:=xFr [(0,.ptr (some (d,0))),(9,.ptr (some (sp,0)))] 134
section
variable {S X0 X:ASt} {d k room nu sp lp mp s r:Nat} {x y:Nat→Nat} {c:Bool} {P:AV} {L R:List Nat}
theorem sldm {X:ASt} (h:X.h.get sp=some (stO d k x c (.ptr (some (lp,0))) (.ptr (some (mp,0))) y)):aLoad EAu 73 (.ptr (some (sp,10))) X=some (.ptr (some (mp,0)),X):=sld_m h
theorem ext_round {kb i:Nat} {C:Cap} (h:MI S X0 X d k room nu sp lp mp x y c P L r R s) (hs:s<18446744073709551616) (h1:1≤k) (hk:k≤64) (hi:i<R.length) (hR:R.length<1000) (he:R.getD i 0<1000) :
  ∃X',(Trip Tryz.prog kb none L25 (fA2 d sp (.slice (some (r,0)) R.length C) R.length i) X fun z=>z=(.normal,fA2 d sp (.slice (some (r,0)) R.length C) R.length (i+1),X'))∧MI S X0 X' d k room nu sp lp mp x y c P L r R (mrk4 k s (R.getD i 0) 4):=by
 obtain⟨e,hE⟩:∃e,e=R.getD i 0:=⟨_,rfl⟩
 have b0:mrk4 k s e 0<18446744073709551616:=mrk4_lt (m:=64) hs hk 0
 have b1:mrk4 k s e 1<18446744073709551616:=mrk4_lt (m:=64) hs hk 1
 have b2:mrk4 k s e 2<18446744073709551616:=mrk4_lt (m:=64) hs hk 2
 have b3:mrk4 k s e 3<18446744073709551616:=mrk4_lt (m:=64) hs hk 3
 obtain⟨e0,S2,w0,h2,l2⟩:=mk1 (s:=mrk4 k s e 0) h b0 h1 hk (e*4+0)
 obtain⟨e1,S4,w1,h4,l4⟩:=mk1 (s:=mrk4 k s e 1) h2 b1 h1 hk (e*4+1)
 obtain⟨e2,S6,w2,h6,l6⟩:=mk1 (s:=mrk4 k s e 2) h4 b2 h1 hk (e*4+2)
 obtain⟨e3,S8,w3,h8,l8⟩:=mk1 (s:=mrk4 k s e 3) h6 b3 h1 hk (e*4+3)
 have hok:=orC_ok (oneC_ok w0) (orC_ok (oneC_ok w1) (orC_ok (oneC_ok w2) (oneC_ok w3)))
 rw[←hE] at he ⊢
 refine⟨S8,Trip.ofR EAuok (onlyC_ok hok) (kf:=[0,9,103,104,105]) (Q1:=fun z=>z=(.normal,fA2 d sp (.slice (some (r,0)) R.length C) R.length (i+1),S8)) (Eq.mp (vcAf _ d sp mp R.length i r e e0 e1 e2 e3 (.slice (some (r,0)) R.length C) (.slice (some (X.next,0)) 1 (.known 1)) (.slice (some (S2.next,0)) 1 (.known 1)) (.slice (some (S4.next,0)) 1 (.known 1)) (.slice (some (S6.next,0)) 1 (.known 1)) X (X.add (.cells [.int .i64 (.ofNat (e*4+0))] true)) S2 (S2.add (.cells [.int .i64 (.ofNat (e*4+1))] true)) S4 (S4.add (.cells [.int .i64 (.ofNat (e*4+2))] true)) S6 (S6.add (.cells [.int .i64 (.ofNat (e*4+3))] true)) S8 (fun z=>z=(.normal,fA2 d sp (.slice (some (r,0)) R.length C) R.length (i+1),S8)))
  ⟨lT hi,?_,?_,sldm h.at_.st,opMul (by omega),opAdd (by omega),by kernel_rfl,ca (orC_l oneC_at),sldm h2.at_.st,opMul (by omega),opAdd (by omega),by kernel_rfl,ca (orC_r (oneC_nx ?_) (orC_l oneC_at)),sldm h4.at_.st,opMul (by omega),opAdd (by omega),by kernel_rfl,ca (orC_r (oneC_nx ?_) (orC_r (oneC_nx ?_) (orC_l oneC_at))),sldm h6.at_.st,opMul (by omega),opAdd (by omega),by kernel_rfl,ca (orC_r (oneC_nx ?_) (orC_r (oneC_nx ?_) (orC_r (oneC_nx ?_) oneC_at))),opAdd (by omega),rfl⟩) (fun e F Y hz=>hz),h8⟩
 ·have:=still_idx (E:=EAu) (t:=69) (z:=1) (i:=r) (o:=0) (n:=R.length) (k:=i) (c:=C) (kd:=.i64) (st:=X) (by kernel_rfl) hi
  rw[Nat.zero_add] at this
  exact this
 ·rw[hE];exact load_at (by kernel_rfl) h.row (rowI_at hi)
 all_goals (simp only[add_next];omega)
theorem ext_all {kb:Nat} {C:Cap} (h:MI S X0 X d k room nu sp lp mp x y c P L r R s) (hs:s<18446744073709551616) (h1:1≤k) (hk:k≤64) (hR:R.length<1000) (he:∀e,e∈R→e<1000) :
  ∃X',(Trip Tryz.prog kb none (.block 1 (.loop L25)) (fA2 d sp (.slice (some (r,0)) R.length C) R.length 0) X fun z=>z=(.normal,fA3 d sp,X'))∧MI S X0 X' d k room nu sp lp mp x y c P L r R (mrkL k s R R.length):=by
 obtain⟨T,hT0,hT⟩:=chainG (α:=ASt) (Inv:=fun i X=>MI S X0 X d k room nu sp lp mp x y c P L r R (mrkL k s R i)) (R:=fun i X X'=>Trip Tryz.prog kb none L25 (fA2 d sp (.slice (some (r,0)) R.length C) R.length i) X fun z=>z=(.normal,fA2 d sp (.slice (some (r,0)) R.length C) R.length (i+1),X')) (X0:=X) h R.length (fun i X hi I=>by
  obtain⟨X',g1,g2⟩:=ext_round (kb:=kb) (C:=C) I (mrkL_lt (m:=64) hs hk i) h1 hk hi hR (by
   have:R.getD i 0∈R:=by
    rw[List.getD_eq_getElem?_getD,List.getElem?_eq_getElem hi]
    exact List.getElem_mem hi
   exact he _ this)
  exact⟨X',g1,g2⟩)
 have iN:MI S X0 (T R.length) d k room nu sp lp mp x y c P L r R (mrkL k s R R.length):=by
  cases hn:R.length with
  | zero=>rw[hT0];exact h
  | succ n=>exact (hT n (by omega)).2.2
 refine⟨T R.length,?_,iN⟩
 have:=Trip.turns (P:=Tryz.prog) (kb:=kb) (ro:=none) (L:=L25) (id:=1) (n:=R.length) (T:=fun i=>(fA2 d sp (.slice (some (r,0)) R.length C) R.length i,T i)) (F:=fA3 d sp) (Z:=T R.length) (fun i hi=>(hT i hi).2.1) (Trip.ofR EAuok noSum_ok (kf:=[0,9]) (Q1:=fun z=>z=(.exit 1,fA3 d sp,T R.length)) (Eq.mp (vcAg d sp R.length R.length (.slice (some (r,0)) R.length C) (T R.length) (fun z=>z=(.exit 1,fA3 d sp,T R.length))) ⟨lF (Nat.le_refl _),rfl⟩) (fun e F Y hz=>hz))
 simp only[hT0] at this
 exact this
theorem ext_nil {kb:Nat} {X:ASt}:Trip Tryz.prog kb none (.block 1 (.loop L25)) (fA2 d sp (.slice none 0 (.known 0)) 0 0) X fun z=>z=(.normal,fA3 d sp,X) :=
 Trip.turns (P:=Tryz.prog) (kb:=kb) (ro:=none) (L:=L25) (id:=1) (n:=0) (T:=fun i=>(fA2 d sp (.slice none 0 (.known 0)) 0 i,X)) (F:=fA3 d sp) (Z:=X) (fun i hi=>absurd hi (Nat.not_lt_zero i)) (Trip.ofR EAuok noSum_ok (kf:=[0,9]) (Q1:=fun z=>z=(.exit 1,fA3 d sp,X)) (Eq.mp (vcAg d sp 0 0 (.slice none 0 (.known 0)) X (fun z=>z=(.exit 1,fA3 d sp,X))) ⟨lF (Nat.le_refl _),rfl⟩) (fun e F Y hz=>hz))
end
end Go.Proofs.YtiafochainjglaaGreatDoor.drp.atu
end

section
open Go Go.Ax Go.Proofs
namespace Go.Proofs.YtiafochainjglaaGreatDoor.drp.atu
set_option linter.unusedVariables false
open oo cd cd2 cd3 cd4 cd5 cd9 pu atc
theorem Trip.cut {P:Program} {kb:Nat} {ro:Option Nat} {c:Code} {fr fr':AFr} {st:ASt} {Q:Exit×AFr×ASt→Prop} (kf:List Nat) (e:canF kf fr=fr') (h:Trip P kb ro c fr' st Q):Trip P kb ro c fr st Q:=Trip.less (e▸Wk.canF kb kf fr st) h
noncomputable def fA1 (d k sp:Nat):AFr:=xFr [(0,.ptr (some (d,0))),(1,.int .i64 (.ofNat k)),(9,.ptr (some (sp,0)))] 134
noncomputable def fA4 (d sp:Nat) (c:Bool):AFr:=xFr [(0,.ptr (some (d,0))),(9,.ptr (some (sp,0))),(98,.bool c)] 134
noncomputable def fA9 (sp:Nat):AFr:=xFr [(9,.ptr (some (sp,0)))] 134
theorem sh25:dropC 7 c25=.seq (seqL (dropC 7 c25)) (.seq (.seq (seqL (seqL (dropC 8 c25))) (.cond (.tmp 98) B25 .skip)) (dropC 9 c25)):=by kernel_rfl
theorem shB25:B25=.seq (.seq (seqL (seqL B25)) (.block 1 (.loop L25))) (seqR B25):=by kernel_rfl
structure Pre (S X:ASt) (d k room nu sp lp:Nat) (x y:Nat→Nat) (c:Bool) (P:AV) (L:List Nat):Prop where
 st:X.h.get sp=some (stO d k x c (.ptr (some (lp,0))) (.ptr none) y)
 lg:X.h.get lp=some (logO d room nu P)
 hot:HotP S.next X P L
 los:S.next≤sp
 lol:S.next≤lp
 tidy:Tidy X
 next:S.next≤X.next
 old:∀i,i<S.next→X.h.get i=S.h.get i
section
variable {S X:ASt} {d k room nu sp lp mp:Nat} {x y:Nat→Nat} {c:Bool} {A M P:AV} {L:List Nat}
theorem sst_l (h:S.h.get sp=some (stO d k x c A M y)) {v:AV} (hv:v.isCell=true):Option.map (fun s=>(undefA,s)) (aStore EAu 134 (.ptr (some (sp,9))) v S)=some (.tuple [],S.put sp (stO d k x c v M y)):=okS_of (store_at (j:=9) (by kernel_rfl) h (by show 9<31;decide) hv)
theorem sst_m (h:S.h.get sp=some (stO d k x c A M y)) {v:AV} (hv:v.isCell=true):Option.map (fun s=>(undefA,s)) (aStore EAu 73 (.ptr (some (sp,10))) v S)=some (.tuple [],S.put sp (stO d k x c A v y)):=okS_of (store_at (j:=10) (by kernel_rfl) h (by show 10<31;decide) hv)
theorem Pre.away (h:Pre S X d k room nu sp lp x y c P L):lp≠sp∧∀p,p∈hotE P L→p.1≠sp∧p.1≠lp:=by
 refine⟨ne_get h.lg h.st log_ns,fun p hp=>?_⟩
 obtain⟨q1,_,q3⟩:=hotE_at h.hot p hp
 rw[q3] at q1
 exact⟨ne_get q1 h.st rowI_ns,ne_get q1 h.lg rowI_ne⟩
end
section
variable {q:CallT} {H:List Nat→Nat→Nat} {S X:ASt} {d k room nu sp lp mp kb:Nat} {x y:Nat→Nat} {c:Bool} {P:AV} {L:List Nat} {las:List (List Nat)} {es:List dsk.En}
theorem map_yes (hS:Sums q H) (hD:Dsk X d las es) (hn:las.length=9+k) (h1:1≤k) (h2:k≤64) (hse:mX H (nb las es 4)<18446744073709551616) (hm:mkM H (nb las es) k=true) (h:Pre S X d k room nu sp lp x y c P L) :
  ∃mp Z,(Trip Tryz.prog kb none (seqL (dropC 7 c25)) (fA1 d k sp) X fun z=>z=(.normal,fA3 d sp,Z))∧AtS S Z d k room nu sp lp mp x y c P L (mX H (nb las es 4))∧∀i,i<S.next→Z.h.get i=S.h.get i:=by
 obtain⟨S1,w1,o1⟩:=load_yes hS hD hn h1 h2 hse hm
 have st1:S1.h.get sp=some (stO d k x c (.ptr (some (lp,0))) (.ptr none) y):=(o1.old sp (h.tidy.lt h.st)).trans h.st
 obtain⟨S2,e2⟩:∃Y,Y=S1.put sp (stO d k x c (.ptr (some (lp,0))) (.ptr (some (X.next,0))) y):=⟨_,rfl⟩
 have hsp:=h.tidy.lt h.st
 have hlp:=h.tidy.lt h.lg
 obtain⟨ne,ner⟩:=h.away
 have n2:S2.next=S1.next:=by rw[e2];rfl
 refine⟨X.next,S2,Trip.ofR EAuok (onlyC_ok (oneC_ok w1)) (kf:=[0,9]) (Q1:=fun z=>z=(.normal,fA3 d sp,S2)) (Eq.mp (vcAb _ d k sp X.next X S1 S2 (fun z=>z=(.normal,fA3 d sp,S2))) ⟨ca oneC_at,by rw[e2];exact sst_m st1 rfl,rfl⟩) (fun e F Y hz=>hz),⟨by rw[e2];exact put_at,?_,?_,?_,h.los,h.lol,h.next,?_,?_⟩,fun i hi=>?_⟩
 ·rw[e2,put_ne ne,o1.old lp hlp];exact h.lg
 ·rw[e2,put_ne (by omega)];exact (o1.loc 0 (X.next,mapO k (mX H (nb las es 4))) rfl).2
 ·refine hotE_of h.hot fun p hp=>?_
  obtain⟨q1,_,_⟩:=hotE_at h.hot p hp
  rw[e2,put_ne (ner p hp).1,o1.old p.1 (h.tidy.lt q1)];exact q1
 ·rw[e2];exact o1.tidy.put (o1.tidy.lt st1)
 ·rw[n2];exact Nat.le_trans h.next o1.next
 ·have:=h.los
  have hn':=h.next
  rw[e2,put_ne (by omega),o1.old i (by omega)];exact h.old i hi
theorem map_no (hS:Sums q H) (hD:Dsk X d las es) (hn:las.length=9+k) (h1:1≤k) (h2:k≤64) (hse:mX H (nb las es 4)<18446744073709551616) (hm:mkM H (nb las es) k=false) (h:Pre S X d k room nu sp lp x y c P L) :
  ∃mp Z,(Trip Tryz.prog kb none (seqL (dropC 7 c25)) (fA1 d k sp) X fun z=>z=(.normal,fA3 d sp,Z))∧AtS S Z d k room nu sp lp mp x y c P L (2 ^ k - 1)∧∀i,i<S.next→Z.h.get i=S.h.get i:=by
 obtain⟨S1,w1,o1⟩:=load_no hS hD hn h1 h2 hse hm
 have hsp:=h.tidy.lt h.st
 have hlp:=h.tidy.lt h.lg
 obtain⟨ne,ner⟩:=h.away
 have st1:S1.h.get sp=some (stO d k x c (.ptr (some (lp,0))) (.ptr none) y):=(o1.old sp hsp).trans h.st
 have oo1:=o1.next
 obtain⟨S2,e2⟩:∃Y,Y=S1.put sp (stO d k x c (.ptr (some (lp,0))) (.ptr none) y):=⟨_,rfl⟩
 have n2:S2.next=S1.next:=by rw[e2];rfl
 have t2:Tidy S2:=by rw[e2];exact o1.tidy.put (by omega)
 have g2:S2.h.get sp=some (stO d k x c (.ptr (some (lp,0))) (.ptr none) y):=by rw[e2];exact put_at
 have k2:∀i,i≠sp→i<X.next→S2.h.get i=X.h.get i:=fun i hi hx=>by rw[e2,put_ne hi,o1.old i hx]
 obtain⟨S3,e3⟩:∃Y,Y=S2.add (mapO k 0):=⟨_,rfl⟩
 have n3:S3.next=S2.next+1:=by rw[e3];rfl
 have t3:Tidy S3:=by rw[e3];exact t2.add
 have g3:S3.h.get sp=some (stO d k x c (.ptr (some (lp,0))) (.ptr none) y):=by rw[e3,add_ne (by omega)];exact g2
 have m3:S3.h.get S2.next=some (mapO k 0):=by rw[e3];exact add_at
 have k3:∀i,i≠sp→i<X.next→S3.h.get i=X.h.get i:=fun i hi hx=>by rw[e3,add_ne (by omega),k2 i hi hx]
 obtain⟨S4,e4⟩:∃Y,Y=S3.put sp (stO d k x c (.ptr (some (lp,0))) (.ptr (some (S2.next,0))) y):=⟨_,rfl⟩
 have n4:S4.next=S3.next:=by rw[e4];rfl
 have t4:Tidy S4:=by rw[e4];exact t3.put (by omega)
 have g4:S4.h.get sp=some (stO d k x c (.ptr (some (lp,0))) (.ptr (some (S2.next,0))) y):=by rw[e4];exact put_at
 have m4:S4.h.get S2.next=some (mapO k 0):=by rw[e4,put_ne (by omega)];exact m3
 have k4:∀i,i≠sp→i<X.next→S4.h.get i=X.h.get i:=fun i hi hx=>by rw[e4,put_ne hi,k3 i hi hx]
 obtain⟨S5,e5⟩:∃Y,Y=S4.put S2.next (mapO k (2 ^ k - 1)):=⟨_,rfl⟩
 have n5:S5.next=S4.next:=by rw[e5];rfl
 have k5:∀i,i≠sp→i<X.next→S5.h.get i=X.h.get i:=fun i hi hx=>by rw[e5,put_ne (by omega),k4 i hi hx]
 have hnew:Call1 Tryz.prog 81 [.int .i64 (.ofNat k)] S2 (.tuple [.ptr (some (S2.next,0)),.int .i64 (.ofNat 0)],S3):=by rw[e3];exact mnew_at h1 h2
 have hfill:Call1 Tryz.prog 82 [.ptr (some (S2.next,0))] S4 (.tuple [],S5):=by rw[e5];exact mfill_at m4 h1 h2
 have hok:=orC_ok (oneC_ok w1) (orC_ok (oneC_ok hnew) (oneC_ok hfill))
 refine⟨S2.next,S5,Trip.ofR EAuok (onlyC_ok hok) (kf:=[0,9]) (Q1:=fun z=>z=(.normal,fA3 d sp,S5)) (Eq.mp (vcAc _ d k sp S2.next X S1 S2 S3 S4 S5 (fun z=>z=(.normal,fA3 d sp,S5))) ⟨ca (orC_l oneC_at),by rw[e2];exact sst_m st1 rfl,ca (orC_r (oneC_no (by decide)) (orC_l oneC_at)),by rw[e4];exact sst_m g3 rfl,sldm g4,ca (orC_r (oneC_no (by decide)) (orC_r (oneC_no (by decide)) oneC_at)),rfl⟩) (fun e F Y hz=>hz),⟨?_,?_,?_,?_,h.los,h.lol,?_,?_,?_⟩,fun i hi=>?_⟩
 ·rw[e5,put_ne (by omega)];exact g4
 ·rw[k5 lp ne hlp];exact h.lg
 ·rw[e5];exact put_at
 ·refine hotE_of h.hot fun p hp=>?_
  obtain⟨q1,_,_⟩:=hotE_at h.hot p hp
  rw[k5 p.1 (ner p hp).1 (h.tidy.lt q1)];exact q1
 ·have:=h.next;omega
 ·rw[e5];exact t4.put (by omega)
 ·have:=h.next;omega
 ·have:=h.los
  have:=h.next
  rw[k5 i (by omega) (by omega)];exact h.old i hi
end
end Go.Proofs.YtiafochainjglaaGreatDoor.drp.atu
end
