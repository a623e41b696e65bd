/-
  OWN WORK, A PART: an abstract machine for the program's text that the kernel can run, and the proof that it is sound: what it answers is what the program answers; contracts of functions by it. No condition.
-/
import Derived.Test.YtiafochainjglaaGreatDoorXtC
import Derived.Test.YtiafochainjglaaGreatDoorMtI
import Derived.Test.YtiafochainjglaaGreatDoorNtD
section
open Go Go.Ax Go.Proofs
namespace Go.Proofs.YtiafochainjglaaGreatDoor.drp.atu
set_option linter.unusedVariables false
open oo cd cd2 cd3 cd4 cd5 cd9 pu atc
section
variable {S:ASt} {d k sp:Nat} {x x0 y y0:Nat→Nat} {c c0:Bool} {A M:AV}
theorem sst_s (h:S.h.get sp=some (stO d k x0 c0 A M y)):Option.map (fun s=>(undefA,s)) (aStore EAu 29 (.ptr (some (sp,2))) (.agg (sL x c)) S)=some (.tuple [],S.put sp (stO d k x c A M y)) :=
 okS_of (storeA_at (z:=7) (A:=[.ptr (some (d,0)),.int .i64 (.ofNat k)]) (B:=sL x0 c0) (C:=A::M::(rL y++[.int .i64 (.ofNat 0)])) (by kernel_rfl) rfl rfl rfl h)
theorem sst_t (h:S.h.get sp=some (stO d k x c A M y0)):Option.map (fun s=>(undefA,s)) (aStore EAu 33 (.ptr (some (sp,11))) (.agg (rL y)) S)=some (.tuple [],S.put sp (stO d k x c A M y)) :=
 okS_of (storeA_at (z:=19) (A:=.ptr (some (d,0))::.int .i64 (.ofNat k)::(sL x c++[A,M])) (B:=rL y0) (C:=[.int .i64 (.ofNat 0)]) (by kernel_rfl) rfl rfl rfl h)
end
section
variable {q q2:CallT} {H:List Nat→Nat→Nat} {X:List Nat→Nat} {S:ASt} {d k room:Nat} {las:List (List Nat)} {es:List dsk.En}
theorem pre_at {kb:Nat} (hS:Sums q H) (hX:Shorts q2 X) (hD:Dsk S d las es) (hn:las.length=9+k) (h1:1≤k) (h2:k≤64) (hr1:1≤room) (hr2:room≤16) (e1:LSe H (nb las es)=0) (e2:LKe X (nb las es)=0) :
  ∃sp lp P Y,Pre S Y d k room (hotF H (nb las es) 4).1 sp lp (LSx H (nb las es)) (LKx X (nb las es)) (LSc H (nb las es)) P (hotL (hotF H (nb las es) 4).2 room 16) ∧
   ∀{Q:Exit×AFr×ASt→Prop},Trip Tryz.prog kb none (dropC 7 c25) (fA1 d k sp) Y Q→Trip Tryz.prog kb none c25 {m:=putArgs [.ptr (some (d,0)),.int .i64 (.ofNat k),.int .i64 (.ofNat room)] 0 .e,n:=134,defs:=[]} S Q:=by
 have ht:=hD.tidy
 obtain⟨l,m,ck,hdk⟩:=hD.ex
 obtain⟨S1,f1⟩:∃Y,Y=S.add (stO d k (fun _=>0) false (.ptr none) (.ptr none) (fun _=>0)):=⟨_,rfl⟩
 have n1:S1.next=S.next+1:=by rw[f1];rfl
 have t1:Tidy S1:=by rw[f1];exact ht.add
 have g1:S1.h.get S.next=some (stO d k (fun _=>0) false (.ptr none) (.ptr none) (fun _=>0)):=by rw[f1];exact add_at
 have k1:∀i,i<S.next→S1.h.get i=S.h.get i:=fun i hi=>by rw[f1,add_ne (by omega)]
 have D1:Dsk S1 d las es:=⟨⟨l,m,ck,hdk.keep ht k1⟩,t1,hD.few,hD.byt⟩
 obtain⟨S2,f2⟩:∃Y,Y=S1.put S.next (stO d k (LSx H (nb las es)) (LSc H (nb las es)) (.ptr none) (.ptr none) (fun _=>0)):=⟨_,rfl⟩
 have n2:S2.next=S.next+1:=by rw[f2];exact n1
 have t2:Tidy S2:=by rw[f2];exact t1.put (by omega)
 have g2:S2.h.get S.next=some (stO d k (LSx H (nb las es)) (LSc H (nb las es)) (.ptr none) (.ptr none) (fun _=>0)):=by rw[f2];exact put_at
 have k2:∀i,i<S.next→S2.h.get i=S.h.get i:=fun i hi=>by rw[f2,put_ne (by omega),k1 i hi]
 have D2:Dsk S2 d las es:=⟨⟨l,m,ck,hdk.keep ht k2⟩,t2,hD.few,hD.byt⟩
 obtain⟨S3,f3⟩:∃Y,Y=S2.put S.next (stO d k (LSx H (nb las es)) (LSc H (nb las es)) (.ptr none) (.ptr none) (LKx X (nb las es))):=⟨_,rfl⟩
 have n3:S3.next=S.next+1:=by rw[f3];exact n2
 have t3:Tidy S3:=by rw[f3];exact t2.put (by omega)
 have g3:S3.h.get S.next=some (stO d k (LSx H (nb las es)) (LSc H (nb las es)) (.ptr none) (.ptr none) (LKx X (nb las es))):=by rw[f3];exact put_at
 have k3:∀i,i<S.next→S3.h.get i=S.h.get i:=fun i hi=>by rw[f3,put_ne (by omega),k2 i hi]
 have D3:Dsk S3 d las es:=⟨⟨l,m,ck,hdk.keep ht k3⟩,t3,hD.few,hD.byt⟩
 obtain⟨P,S4,w4,I4⟩:=open_at hS D3 hn h1 h2 hr1 hr2
 have g4:S4.h.get S.next=some (stO d k (LSx H (nb las es)) (LSc H (nb las es)) (.ptr none) (.ptr none) (LKx X (nb las es))):=(I4.old _ (by omega)).trans g3
 have w54:=loadS_p hS D1 (show 2≤las.length by omega)
 have w55:=tab_p hX D2 (show 4≤las.length by omega) (by omega)
 rw[e1] at w54
 rw[e2] at w55
 have hok:=orC_ok (oneC_ok (smay_at hD hn h1 h2)) (orC_ok (oneC_ok w54) (orC_ok (oneC_ok w55) (oneC_ok w4)))
 refine⟨S.next,S3.next,P,S4.put S.next (stO d k (LSx H (nb las es)) (LSc H (nb las es)) (.ptr (some (S3.next,0))) (.ptr none) (LKx X (nb las es))),⟨put_at,?_,?_,Nat.le_refl _,by omega,I4.tidy.put (I4.tidy.lt g4),?_,fun i hi=>?_⟩,fun {Q} h=>?_⟩
 ·rw[put_ne (by omega)];exact I4.log
 ·have hh:HotP S.next S4 P (hotL (hotF H (nb las es) 4).2 room 16):=by
   rcases I4.hot with q | ⟨r,q0,q1,q2,q3⟩
   ·exact .inl q
   ·exact .inr ⟨r,q0,q1,by omega,q3⟩
  refine hotE_of hh fun p hp=>?_
  obtain⟨q1,_,q3⟩:=hotE_at hh p hp
  have q1':=q1
  rw[q3] at q1'
  rw[put_ne (ne_get q1' g4 rowI_ns)];exact q1
 ·have:=I4.next
  show S.next≤S4.next
  have:S3.next≤S4.next:=this
  omega
 ·rw[put_ne (by omega)]
  exact (I4.old i (by omega)).trans (k3 i hi)
 ·refine Trip.preR EAuok (onlyC_ok hok) (k:=7) (kf:=[0,1,9]) (by kernel_rfl) (Q1:=fun z=>z=(.normal,fA1 d k S.next,S4.put S.next (stO d k (LSx H (nb las es)) (LSc H (nb las es)) (.ptr (some (S3.next,0))) (.ptr none) (LKx X (nb las es))))) (Eq.mp (vcAa _ d k room S.next S3.next (LKq X (nb las es)) (LSx H (nb las es)) (LKx X (nb las es)) (LSc H (nb las es)) S S1 S2 S3 S4 (S4.put S.next (stO d k (LSx H (nb las es)) (LSc H (nb las es)) (.ptr (some (S3.next,0))) (.ptr none) (LKx X (nb las es)))) (fun z=>z=(.normal,fA1 d k S.next,S4.put S.next (stO d k (LSx H (nb las es)) (LSc H (nb las es)) (.ptr (some (S3.next,0))) (.ptr none) (LKx X (nb las es))))))
   ⟨ca (orC_l oneC_at),lF hr1,gF hr2,by rw[f1];rfl,ca (orC_r (oneC_no (by decide)) (orC_l oneC_at)),by rw[f2];exact sst_s g1,ca (orC_r (oneC_no (by decide)) (orC_r (oneC_no (by decide)) (orC_l oneC_at))),by rw[f3];exact sst_t g2,ca (orC_r (oneC_no (by decide)) (orC_r (oneC_no (by decide)) (orC_r (oneC_no (by decide)) oneC_at))),sst_l g4 rfl,rfl⟩) ?_ (fun z h1 h2=>absurd (congrArg (·.1) h2) h1)
  rintro F Y hY
  cases hY
  exact h
end
section
variable {q q2:CallT} {H:List Nat→Nat→Nat} {X:List Nat→Nat} {base d l m cc k room:Nat} {S0 S:ASt} {las:List (List Nat)} {es:List dsk.En}
def setA (H:List Nat→Nat→Nat) (b:Nat→List Nat) (k:Nat):Nat:=if mkM H b k=true then mX H (b 4) else 2 ^ k - 1
theorem setA_lt {H:List Nat→Nat→Nat} {b:Nat→List Nat} {k:Nat} (h2:k≤64) (hse:mX H (b 4)<18446744073709551616):setA H b k<18446744073709551616:=by
 unfold setA
 split
 ·exact hse
 ·have h:2 ^ k≤18446744073709551616:=Nat.pow_le_pow_right (n:=2) (by decide) h2
  have hp:=Nat.two_pow_pos k
  omega
theorem attach_at (hS:Sums q H) (hX:Shorts q2 X) (hv:Dv base S0 S d l m (9+k) cc las es) (hcc:cc<90000) (h1:1≤k) (h2:k≤64) (hr1:1≤room) (hr2:room≤16) (hse:mX H (nb las es 4)<18446744073709551616) (e1:LSe H (nb las es)=0) (e2:LKe X (nb las es)=0) :
  ∃sp lp mp P S' las' es',Call1 Tryz.prog 25 [.ptr (some (d,0)),.int .i64 (.ofNat k),.int .i64 (.ofNat room)] S (.tuple [.ptr (some (sp,0)),.int .i64 (.ofNat 0)],S') ∧
   AtS S S' d k room (hotF H (nb las es) 4).1 sp lp mp (LSx H (nb las es)) (LKx X (nb las es)) (LSc H (nb las es)) P (hotL (hotF H (nb las es) 4).2 room 16) (if LSc H (nb las es)=true then mrkL k (setA H (nb las es) k) (hotL (hotF H (nb las es) 4).2 room 16) (hotL (hotF H (nb las es) 4).2 room 16).length else setA H (nb las es) k) ∧
   Dv base S0 S' d l m (9+k) (cc+1) las' es'∧(∀i,i<S.next→i≠l→i≠m→S'.h.get i=S.h.get i)∧(LSc H (nb las es)=false→las'=las∧es'=es):=by
 obtain⟨b,hb⟩:∃b,b=nb las es:=⟨_,rfl⟩
 obtain⟨L,hL⟩:∃L,L=hotL (hotF H b 4).2 room 16:=⟨_,rfl⟩
 rw[←hb] at hse e1 e2 ⊢
 rw[←hL]
 have hD:=hv.dsk (by omega)
 have hn:=hv.len
 obtain⟨dl,ll,ml⟩:=Dv.lt hv
 obtain⟨dl',dm',lm'⟩:=Dv.dne hv (by omega)
 have hdG:Go.Ax.Good S d:=by
  obtain⟨ck,hdk⟩:=hv.dk
  exact .inr ⟨_,hdk.hd,by unfold dsk.dK;simp⟩
 have hLlen:L.length<1000:=by rw[hL];have:=(hotL_len (hotF H b 4).2 room 16).2;omega
 have hLlt:∀e,e∈L→e<1000:=fun e he=>by rw[hL] at he;have:=hotL_lt (hotF H b 4).2 room 16 e he;omega
 have hs0:=setA_lt (H:=H) (b:=b) h2 hse
 -- up to the map,and the map
 obtain⟨sp,lp,mp,P,Z,hrun,hA,hold⟩:∃sp lp mp P Z,(∀{Q:Exit×AFr×ASt→Prop},Trip Tryz.prog S.next none (.seq (.seq (seqL (seqL (dropC 8 c25))) (.cond (.tmp 98) B25 .skip)) (dropC 9 c25)) (fA3 d sp) Z Q→Trip Tryz.prog S.next none c25 {m:=putArgs [.ptr (some (d,0)),.int .i64 (.ofNat k),.int .i64 (.ofNat room)] 0 .e,n:=134,defs:=[]} S Q)∧AtS S Z d k room (hotF H b 4).1 sp lp mp (LSx H b) (LKx X b) (LSc H b) P L (setA H b k)∧∀i,i<S.next→Z.h.get i=S.h.get i:=by
  obtain⟨sp,lp,P,Y,hpre,hgo⟩:=pre_at (kb:=S.next) hS hX hD hn h1 h2 hr1 hr2 (by rw[←hb];exact e1) (by rw[←hb];exact e2)
  rw[←hb,←hL] at hpre
  have hDY:Dsk Y d las es:=by
   obtain⟨l,m,ck,hdk⟩:=hD.ex
   exact⟨⟨l,m,ck,hdk.keep hD.tidy hpre.old⟩,hpre.tidy,hD.few,hD.byt⟩
  cases hm:mkM H b k with
  | true =>
   obtain⟨mp,Z,g1,g2,g3⟩:=map_yes (kb:=S.next) hS hDY hn h1 h2 (by rw[←hb];exact hse) (by rw[←hb];exact hm) hpre
   refine⟨sp,lp,mp,P,Z,fun {Q} h=>hgo ?_,?_,g3⟩
   ·rw[sh25];exact Trip.then g1 h
   ·rw[←hb] at g2
    have e:setA H b k=mX H (b 4):=if_pos hm
    rw[e];exact g2
  | false =>
   obtain⟨mp,Z,g1,g2,g3⟩:=map_no (kb:=S.next) hS hDY hn h1 h2 (by rw[←hb];exact hse) (by rw[←hb];exact hm) hpre
   refine⟨sp,lp,mp,P,Z,fun {Q} h=>hgo ?_,?_,g3⟩
   ·rw[sh25];exact Trip.then g1 h
   ·have e:setA H b k=2 ^ k - 1:=if_neg (by rw[hm];decide)
    rw[e];exact g2
 have hvZ:=hv.keep (S':=Z) hA.next hA.tidy hold
 have hlv:∀{Z:ASt},leaveA EAu Tryz.f25 (xFr [(6,.ptr (some (sp,0))),(7,.int .i64 (.ofNat 0))] 134) Z=some (.tuple [.ptr (some (sp,0)),.int .i64 (.ofNat 0)],Z):=fun {Z}=>leave_of (rs:=[.tmp 6,.tmp 7]) (by kernel_rfl) rfl (res_tmp (by kernel_rfl) (res_tmp (by kernel_rfl) res_nil)) rfl
 have hvv:refsD (Go.Ax.Good S) (.tuple [.ptr (some (sp,0)),.int .i64 (.ofNat 0)]):=⟨.inl hA.los,trivial,trivial⟩
 have hlast:∀W:ASt,Trip Tryz.prog S.next none (dropC 9 c25) (fA9 sp) W fun z=>z=(.ret,xFr [(6,.ptr (some (sp,0))),(7,.int .i64 (.ofNat 0))] 134,W):=fun W=>Trip.ofR EAuok noSum_ok (kf:=[6,7]) (Q1:=fun z=>z=(.ret,xFr [(6,.ptr (some (sp,0))),(7,.int .i64 (.ofNat 0))] 134,W)) (Eq.mp (vcAi sp W (fun z=>z=(.ret,xFr [(6,.ptr (some (sp,0))),(7,.int .i64 (.ofNat 0))] 134,W))) rfl) (fun e F Y hz=>hz)
 have hhead:Trip Tryz.prog S.next none (seqL (seqL (dropC 8 c25))) (fA3 d sp) Z fun z=>z=(.normal,fA4 d sp (LSc H b),Z):=Trip.ofR EAuok noSum_ok (kf:=[0,9,98]) (Q1:=fun z=>z=(.normal,fA4 d sp (LSc H b),Z)) (Eq.mp (vcAd d sp (LSc H b) Z (fun z=>z=(.normal,fA4 d sp (LSc H b),Z))) ⟨sld_c hA.st,rfl⟩) (fun e F Y hz=>hz)
 cases hc:LSc H b with
 | false =>
  rw[hc] at hA hhead
  rw[if_neg (by decide)]
  have hfin:Trip Tryz.prog S.next none c25 {m:=putArgs [.ptr (some (d,0)),.int .i64 (.ofNat k),.int .i64 (.ofNat room)] 0 .e,n:=134,defs:=[]} S fun z=>z=(.ret,xFr [(6,.ptr (some (sp,0))),(7,.int .i64 (.ofNat 0))] 134,Z):=by
   refine hrun (Trip.then (F:=fA4 d sp false) (Z:=Z) (Trip.then hhead (Trip.cond (b:=false) (by kernel_rfl) (Trip.exec EAuok noSum_ok (n:=3) (r:=(.normal,fA4 d sp false,Z)) (by kernel_rfl) rfl))) (Trip.cut [9] (by kernel_rfl) (hlast Z)))
  obtain⟨S',w1,w2,w3⟩:=Call1.ends EAuok (fn:=Tryz.f25) (c:=c25) (by kernel_rfl) (by kernel_rfl) (by kernel_rfl) (N:=134) (by kernel_rfl) hv.tidy hA.nodup hA.next (fun p hp=>hA.tidy.lt (hA.at_ p hp).1) (hA.refs hdG) hvv
   (hfin.mono fun z hz=>by subst hz;exact⟨.inr rfl,_,hlv,⟨fun p hp=>(hA.at_ p hp).1,hA.refs hdG,fun i hi _=>hold i hi⟩,Nat.le_refl _⟩)
  have hko:∀i,i<S.next→S'.h.get i=S.h.get i:=fun i hi=>w2.old i fun p hp=>by have:=(hA.at_ p hp).2;omega
  exact⟨sp,lp,mp,P,S',las,es,w1,hA.of w2.at_ w2.tidy w2.next,(hv.keep w2.next w2.tidy hko).mono (Nat.le_succ _),fun i hi _ _=>hko i hi,fun _=>⟨rfl,rfl⟩⟩
 | true =>
  rw[hc] at hA hhead
  rw[if_pos rfl]
  -- the hot extents
  obtain⟨P2,Z1,w83,hot2,t1,n1,k1⟩:=hot83_at hA.tidy hA.lg hA.hot hLlen
  have A1:AtS S Z1 d k room (hotF H b 4).1 sp lp mp (LSx H b) (LKx X b) true P L (setA H b k):=hA.keep (fun i _ hi=>k1 i hi) t1 (Nat.le_trans hA.next n1)
  have hlen:=hot2.len (E:=EAu)
  have hbeg:Trip Tryz.prog S.next none (seqL (seqL B25)) (fA3 d sp) Z fun z=>z=(.normal,fA2 d sp P2 L.length 0,Z1):=Trip.ofR EAuok (onlyC_ok (oneC_ok w83)) (kf:=[0,9,103,104,105]) (Q1:=fun z=>z=(.normal,fA2 d sp P2 L.length 0,Z1)) (Eq.mp (vcAe _ d sp lp L.length P2 Z Z1 (fun z=>z=(.normal,fA2 d sp P2 L.length 0,Z1))) ⟨sld_l hA.st,ca oneC_at,hlen,rfl⟩) (fun e F Y hz=>hz)
  obtain⟨Z2,hloop,A2,n2,k2⟩:∃Z2,(Trip Tryz.prog S.next none (.block 1 (.loop L25)) (fA2 d sp P2 L.length 0) Z1 fun z=>z=(.normal,fA3 d sp,Z2))∧AtS S Z2 d k room (hotF H b 4).1 sp lp mp (LSx H b) (LKx X b) true P L (mrkL k (setA H b k) L L.length)∧Z1.next≤Z2.next∧∀i,i<S.next→Z2.h.get i=Z1.h.get i:=by
   rcases hot2 with⟨rfl,rfl⟩ | ⟨r,q0,rfl,q2,q3⟩
   ·exact⟨Z1,ext_nil,A1,Nat.le_refl _,fun _ _=>rfl⟩
   ·obtain⟨Z2,g1,g2⟩:=ext_all (kb:=S.next) (C:=.rest 1) (X0:=Z1) (R:=L) (r:=r) ⟨A1,q3,Nat.le_refl _,fun _ _=>rfl⟩ hs0 h1 h2 hLlen hLlt
    exact⟨Z2,g1,g2.at_,g2.nx,g2.old⟩
  have kZ2:∀i,i<S.next→Z2.h.get i=S.h.get i:=fun i hi=>by have:=hA.next;rw[k2 i hi,k1 i (by omega)];exact hold i hi
  have hv2:=hv.keep (S':=Z2) A2.next A2.tidy kZ2
  obtain⟨Z3,las3,w84,hv3,n3,k3,b3⟩:=save_at hS hv2 (by omega) (by omega) A2.mg (mrkL_lt (m:=64) hs0 h2 _) h1
  have A3:=A2.keep (X':=Z3) (fun i h1 h2=>k3 i h2 (by omega) (by omega)) hv3.tidy (by have:=A2.next;omega)
  have hsave:Trip Tryz.prog S.next none (seqR B25) (fA3 d sp) Z2 fun z=>z=(.normal,fA9 sp,Z3):=Trip.ofR EAuok (onlyC_ok (oneC_ok w84)) (kf:=[9]) (Q1:=fun z=>z=(.normal,fA9 sp,Z3)) (Eq.mp (vcAh _ d sp mp Z2 Z3 (fun z=>z=(.normal,fA9 sp,Z3))) ⟨sldm A2.st,ca oneC_at,rfl⟩) (fun e F Y hz=>hz)
  have hfin:Trip Tryz.prog S.next none c25 {m:=putArgs [.ptr (some (d,0)),.int .i64 (.ofNat k),.int .i64 (.ofNat room)] 0 .e,n:=134,defs:=[]} S fun z=>z=(.ret,xFr [(6,.ptr (some (sp,0))),(7,.int .i64 (.ofNat 0))] 134,Z3):=by
   refine hrun (Trip.then (F:=fA9 sp) (Z:=Z3) (Trip.then hhead (Trip.cond (b:=true) (by kernel_rfl) ?_)) (hlast Z3))
   show Trip _ _ _ B25 _ _ _
   rw[shB25]
   exact Trip.cut [0,9] (by kernel_rfl) (Trip.then (F:=fA3 d sp) (Z:=Z2) (Trip.then hbeg hloop) hsave)
  obtain⟨ck,hdz⟩:=hv3.dk
  have kZ3:∀i,i<S.next→i≠l→i≠m→Z3.h.get i=S.h.get i:=fun i hi hl hm=>by have:=A2.next;rw[k3 i (by omega) hl hm];exact kZ2 i hi
  obtain⟨Ls,hLs⟩:∃Ls,Ls=(l,AO.cells (dsk.rowB las3) true)::(m,AO.map [] ck)::atE d k room (hotF H b 4).1 sp lp mp (LSx H b) (LKx X b) true P L (mrkL k (setA H b k) L L.length):=⟨_,rfl⟩
  have hat:∀p,p∈Ls→Z3.h.get p.1=some p.2:=fun p hp=>by
   rw[hLs] at hp
   rcases List.mem_cons.1 hp with rfl | hp
   ·exact hdz.hl
   rcases List.mem_cons.1 hp with rfl | hp
   ·exact hdz.hm
   ·exact (A3.at_ p hp).1
  have hgd:∀p,p∈Ls→Go.Ax.Good S p.1∧refsB (Go.Ax.Good S) p.2:=fun p hp=>by
   obtain⟨ck0,hdk⟩:=hv.dk
   rw[hLs] at hp
   rcases List.mem_cons.1 hp with rfl | hp
   ·exact⟨.inr ⟨_,hdk.hl,by simp⟩,cp.rowB_d _⟩
   rcases List.mem_cons.1 hp with rfl | hp
   ·exact⟨.inr ⟨_,hdk.hm,by simp⟩,fun e he=>by cases he⟩
   ·exact A3.refs hdG p hp
  have hnd:(Ls.map (·.1)).Nodup:=by
   rw[hLs,List.map_cons,List.map_cons,List.nodup_cons,List.nodup_cons]
   refine⟨fun q=>?_,fun q=>?_,A3.nodup⟩
   ·rcases List.mem_cons.1 q with q | q
    ·exact lm' q
    ·obtain⟨p,hp,e⟩:=List.mem_map.1 q
     have:=(A3.at_ p hp).2
     omega
   ·obtain⟨p,hp,e⟩:=List.mem_map.1 q
    have:=(A3.at_ p hp).2
    omega
  have hk3:∀i,i<S.next→(∀p,p∈Ls→p.1≠i)→Z3.h.get i=S.h.get i:=fun i hi hp=>kZ3 i hi (fun q=>hp (l,AO.cells (dsk.rowB las3) true) (by rw[hLs];exact List.mem_cons_self) q.symm) (fun q=>hp (m,AO.map [] ck) (by rw[hLs];exact List.mem_cons_of_mem _ List.mem_cons_self) q.symm)
  obtain⟨S',w1,w2,w3⟩:=Call1.ends EAuok (fn:=Tryz.f25) (c:=c25) (by kernel_rfl) (by kernel_rfl) (by kernel_rfl) (N:=134) (by kernel_rfl) hv.tidy hnd A3.next (fun p hp=>A3.tidy.lt (hat p hp)) hgd hvv
   (hfin.mono fun z hz=>by subst hz;exact⟨.inr rfl,_,hlv,⟨hat,hgd,hk3⟩,Nat.le_refl _⟩)
  have hko:∀i,i<S.next→i≠l→i≠m→S'.h.get i=S.h.get i:=fun i hi hl hm=>w2.old i fun p hp=>by
   rw[hLs] at hp
   rcases List.mem_cons.1 hp with rfl | hp
   ·exact Ne.symm hl
   rcases List.mem_cons.1 hp with rfl | hp
   ·exact Ne.symm hm
   ·have:=(A3.at_ p hp).2;omega
  have g1:S'.h.get l=Z3.h.get l:=by
   have:=w2.at_ (l,AO.cells (dsk.rowB las3) true) (by rw[hLs];exact List.mem_cons_self)
   rw[hdz.hl];exact this
  have g2:S'.h.get m=Z3.h.get m:=by
   have:=w2.at_ (m,AO.map [] ck) (by rw[hLs];exact List.mem_cons_of_mem _ List.mem_cons_self)
   rw[hdz.hm];exact this
  exact⟨sp,lp,mp,P,S',las3,[],w1,A3.of (fun p hp=>w2.at_ p (by rw[hLs];exact List.mem_cons_of_mem _ (List.mem_cons_of_mem _ hp))) w2.tidy w2.next,Dv.end_ hv hv3 (by omega) g1 g2 hko w2.tidy w2.next,hko,fun q=>by cases q⟩
end
end Go.Proofs.YtiafochainjglaaGreatDoor.drp.atu
end

section
open Go Go.Ax Go.Proofs
namespace Go.Proofs.YtiafochainjglaaGreatDoor.drp.atu
set_option linter.unusedVariables false
open oo cd cd2 cd3 cd4 cd5 cd9 pu atc my fm
open sh (HH XX sumsP shortsP)
section
variable {H:List Nat→Nat→Nat} {X:List Nat→Nat} {b:Nat→List Nat} {k t se nu ho:Nat} {x y:Nat→Nat} {c mk:Bool}
theorem parts_of (h:takeV H X b k=.tuple [.agg (mL k x c y t mk se nu ho),.int .i64 (.ofNat 0)]) :
  LSe H b=0∧LKe X b=0∧sL (LSx H b) (LSc H b)=sL x c∧rL (LKx X b)=rL y∧mkM H b k=mk∧seM H b k=se∧hotF H b 4=(nu,ho):=by
 unfold takeV at h
 cases hs:says H X b with
 | false =>
  rw[hs] at h
  exact absurd h (by
   intro q
   injection q with q
   have:=congrArg (fun l:List AV=>l[1]?) q
   cases this)
 | true =>
  rw[hs] at h
  obtain⟨e1,e2⟩:=of_decide_eq_true hs
  injection h with h
  have h0:=congrArg (fun l:List AV=>l[0]?) h
  simp only[List.getElem?_cons_zero,Option.some.injEq,AV.agg.injEq] at h0
  unfold metaL mL at h0
  injection h0 with _ h0
  obtain⟨a1,h0⟩:=List.append_inj h0 rfl
  obtain⟨a2,h0⟩:=List.append_inj h0 rfl
  simp only[List.cons.injEq,AV.int.injEq,AV.bool.injEq,Int.ofNat.injEq,true_and,and_true] at h0
  obtain⟨_,a3,a4,a5,a6⟩:=h0
  exact⟨e1,e2,a1,a2,a3,a4,Prod.ext a5 a6⟩
end
theorem neqS {S:ASt} {a b:Operand} {x:Nat→Nat} {c:Bool}:still S (aBin EAu .neq 29 a b (.agg (sL x c)) (.agg (sL x c)))=some (.bool false,S):=by
 have e:aBin EAu .neq 29 a b (.agg (sL x c)) (.agg (sL x c))=(match aEq EAu 12 29 (.agg (sL x c)) (.agg (sL x c)) with | some r=>some (.bool (!r)) | none=>none):=by kernel_rfl
 rw[lw.sEq_ok 12 29 _ (by kernel_rfl)] at e
 exact still_of e
theorem neqT {S:ASt} {a b:Operand} {y:Nat→Nat}:still S (aBin EAu .neq 33 a b (.agg (rL y)) (.agg (rL y)))=some (.bool false,S):=by
 have e:aBin EAu .neq 33 a b (.agg (rL y)) (.agg (rL y))=(match aEq EAu 12 33 (.agg (rL y)) (.agg (rL y)) with | some r=>some (.bool (!r)) | none=>none):=by kernel_rfl
 rw[lw.sEq_ok 12 33 _ (by kernel_rfl)] at e
 exact still_of e
theorem neqBo {S:ASt} {a b:Operand} {g:Bool}:still S (aBin EAu .neq 4 a b (.bool g) (.bool g))=some (.bool false,S):=by
 cases g<;>exact still_of (by kernel_rfl)
theorem cvtN {a:Nat} {Y:ASt} (h:a<1000000):aConvert EAu 3 75 (.int .i64 (.ofNat a)) Y=some (.int .u64 (.ofNat a),Y):=by
 have e:aConvert EAu 3 75 (.int .i64 (.ofNat a)) Y=some (.int .u64 (wrapF .u64 (.ofNat a)),Y):=by kernel_rfl
 rw[wU (by omega)] at e
 exact e
noncomputable def f6 (k0 mp:Nat) (P:AV):AFr:=xFr [(2,.ptr (some (k0,0))),(8,P),(9,.ptr (some (mp,0)))] 120
noncomputable def f6i (k0 mp:Nat) (P:AV) (i:Nat):AFr:=xFr [(2,.ptr (some (k0,0))),(8,P),(9,.ptr (some (mp,0))),(10,.int .i64 (.ofNat i))] 120
noncomputable def f6g (k0 mp:Nat) (P:AV) (i:Nat) (g:Bool):AFr:=xFr [(2,.ptr (some (k0,0))),(8,P),(9,.ptr (some (mp,0))),(10,.int .i64 (.ofNat i)),(11,.bool g)] 120
noncomputable def f6j (k0 mp:Nat) (P:AV) (i:Nat) (g:Bool) (j:Nat):AFr:=xFr [(2,.ptr (some (k0,0))),(8,P),(9,.ptr (some (mp,0))),(10,.int .i64 (.ofNat i)),(11,.bool g),(12,.int .i64 (.ofNat j))] 120
theorem shL6:L6=.seq (seqL L6) (.seq (.block 1 B6) (seqR (seqR L6))):=by kernel_rfl
theorem shB6:B6=.seq (seqL B6) (.seq (.seq (seqL (seqL (seqR B6))) (.block 2 (.loop LI6))) (seqR (seqR B6))):=by kernel_rfl
theorem sh6:dropC 8 c6=.seq (.seq (seqL (seqL (dropC 8 c6))) (.block 0 (.loop L6))) (dropC 9 c6):=by kernel_rfl
theorem Trip.blockN {P:Program} {kb:Nat} {ro:Option Nat} {id:Nat} {x:Code} {fr F:AFr} {st Z:ASt} (h:Trip P kb ro x fr st fun r=>r=(.normal,F,Z)):Trip P kb ro (.block id x) fr st fun r=>r=(.normal,F,Z) :=
 Trip.block (h.mono fun r hr=>by subst hr;rfl)
section
variable {kb k0 mp k t se nu ho base s:Nat} {x y:Nat→Nat} {c mk:Bool} {P:AV} {L:List Nat} {W:ASt}
def mkdG (mk c:Bool) (se:Nat) (L:List Nat) (i j:Nat):Bool:=(!mk || has se i) || (c && (L.take j).any fun e=>decide (e=i / 4))
theorem hot_turn {i j:Nat} (g:W.h.get k0=some (.cells (mL k x c y t mk se nu ho) true)) (hP:HotP base W P L) (hj:j<L.length) (hL:L.length<1000) (hi:i<1000) :
  Trip Tryz.prog kb none LI6 (f6j k0 mp P i (mkdG mk c se L i j) j) W fun r=>r=(.normal,f6j k0 mp P i (mkdG mk c se L i (j+1)) (j+1),W):=by
 have hlen:=hP.len (E:=EAu)
 have ld:aLoad EAu 4 (.ptr (some (k0,2))) W=some (.bool c,W):=load_at (by kernel_rfl) g (by kernel_rfl)
 have inc:still W (aBin EAu .add 3 (.tmp 97) (.const (.int .i64 1)) (.int .i64 (.ofNat j)) (.int .i64 (.ofNat 1)))=some (.int .i64 (.ofNat (j+1)),W):=opAdd (by omega)
 have et:L.take (j+1)=L.take j++[L.getD j 0]:=by
  rw[List.take_succ_eq_append_getElem hj,List.getD_eq_getElem?_getD,List.getElem?_eq_getElem hj];rfl
 have step:mkdG mk c se L i (j+1)=(mkdG mk c se L i j || (c && decide (L.getD j 0=i / 4))):=by
  unfold mkdG
  rw[et,List.any_append,List.any_cons,List.any_nil,Bool.or_false,Bool.and_or_distrib_left]
  simp only[Bool.or_assoc]
 cases hg:mkdG mk c se L i j with
 | true =>
  rw[hg,Bool.true_or] at step
  rw[step]
  exact Trip.ofR EAuok noSum_ok (kf:=[2,8,9,10,11,12]) (Q1:=fun r=>r=(.normal,f6j k0 mp P i true (j+1),W)) (Eq.mp (vcWk k0 mp i j L.length P W (fun r=>r=(.normal,f6j k0 mp P i true (j+1),W))) ⟨hlen,lT hj,inc,rfl⟩) (fun e F Y hz=>hz)
 | false =>
  rw[hg,Bool.false_or] at step
  rw[step]
  cases c with
  | false=>exact Trip.ofR EAuok noSum_ok (kf:=[2,8,9,10,11,12]) (Q1:=fun r=>r=(.normal,f6j k0 mp P i false (j+1),W)) (Eq.mp (vcWl k0 mp i j L.length P W (fun r=>r=(.normal,f6j k0 mp P i false (j+1),W))) ⟨hlen,lT hj,ld,inc,rfl⟩) (fun e F Y hz=>hz)
  | true =>
   rw[Bool.true_and]
   rcases hP with⟨rfl,rfl⟩ | ⟨r,q0,rfl,q2,q3⟩
   ·cases hj
   ·refine Trip.ofR EAuok noSum_ok (kf:=[2,8,9,10,11,12]) (Q1:=fun z=>z=(.normal,f6j k0 mp (.slice (some (r,0)) L.length (.rest 1)) i (decide (L.getD j 0=i / 4)) (j+1),W)) (Eq.mp (vcWm k0 mp i j L.length r (L.getD j 0) (decide (L.getD j 0=i / 4)) (.slice (some (r,0)) L.length (.rest 1)) W (fun z=>z=(.normal,f6j k0 mp (.slice (some (r,0)) L.length (.rest 1)) i (decide (L.getD j 0=i / 4)) (j+1),W))) ⟨hlen,lT hj,ld,?_,load_at (by kernel_rfl) q3 (rowI_at hj),opQuo (by omega) (by decide),opEql,inc,rfl⟩) (fun e F Y hz=>hz)
    have:=still_idx (E:=EAu) (t:=69) (z:=1) (i:=r) (o:=0) (n:=L.length) (k:=j) (c:=.rest 1) (kd:=.i64) (st:=W) (by kernel_rfl) hj
    rw[Nat.zero_add] at this
    exact this
theorem blk_turn {i:Nat} (g:W.h.get k0=some (.cells (mL k x c y t mk se nu ho) true)) (hP:HotP base W P L) (hm:W.h.get mp=some (mapO k s)) (hs:s<18446744073709551616) (hk:k≤64) (hi:i<k) (hL:L.length<1000) (hse:se<18446744073709551616) (he:has s i=mkdG mk c se L i L.length) :
  Trip Tryz.prog kb none L6 (f6i k0 mp P i) W fun r=>r=(.normal,f6i k0 mp P (i+1),W):=by
 rw[shL6]
 have ldk:aLoad EAu 3 (.ptr (some (k0,0))) W=some (.int .i64 (.ofNat k),W):=load_at (by kernel_rfl) g (by kernel_rfl)
 have ldm:aLoad EAu 4 (.ptr (some (k0,28))) W=some (.bool mk,W):=load_at (by kernel_rfl) g (by kernel_rfl)
 have lds:aLoad EAu 24 (.ptr (some (k0,29))) W=some (.int .u64 (.ofNat se),W):=load_at (by kernel_rfl) g (by kernel_rfl)
 refine Trip.then (F:=f6i k0 mp P i) (Z:=W) (Trip.ofR EAuok noSum_ok (kf:=[2,8,9,10]) (Q1:=fun r=>r=(.normal,f6i k0 mp P i,W)) (Eq.mp (vcWf k0 mp i k P W (fun r=>r=(.normal,f6i k0 mp P i,W))) ⟨ldk,lT hi,rfl⟩) (fun e F Y hz=>hz)) ?_
 refine Trip.then (F:=f6i k0 mp P i) (Z:=W) (Trip.blockN ?_) (Trip.ofR EAuok noSum_ok (kf:=[2,8,9,10]) (Q1:=fun r=>r=(.normal,f6i k0 mp P (i+1),W)) (Eq.mp (vcWp k0 mp i P W (fun r=>r=(.normal,f6i k0 mp P (i+1),W))) ⟨opAdd (by omega),rfl⟩) (fun e F Y hz=>hz))
 rw[shB6]
 have g0:mkdG mk c se L i 0=(!mk || has se i):=by unfold mkdG;rw[List.take_zero,List.any_nil,Bool.and_false,Bool.or_false]
 refine Trip.then (F:=f6g k0 mp P i (mkdG mk c se L i 0)) (Z:=W) ?_ ?_
 ·rw[g0]
  cases mk with
  | false=>exact Trip.ofR EAuok noSum_ok (kf:=[2,8,9,10,11]) (Q1:=fun r=>r=(.normal,f6g k0 mp P i true,W)) (Eq.mp (vcWh k0 mp i P W (fun r=>r=(.normal,f6g k0 mp P i true,W))) ⟨ldm,rfl⟩) (fun e F Y hz=>hz)
  | true =>
   exact Trip.ofR EAuok noSum_ok (kf:=[2,8,9,10,11]) (Q1:=fun r=>r=(.normal,f6g k0 mp P i (has se i),W)) (Eq.mp (vcWi k0 mp i se (has se i) P W (fun r=>r=(.normal,f6g k0 mp P i (has se i),W))) ⟨ldm,lds,cvtN (by omega),opShr (show i≤64 by omega),opRem (by decide),opEql,rfl⟩) (fun e F Y hz=>hz)
 refine Trip.then (F:=f6g k0 mp P i (mkdG mk c se L i L.length)) (Z:=W) ?_ ?_
 ·refine Trip.then (F:=f6j k0 mp P i (mkdG mk c se L i 0) 0) (Z:=W) (Trip.ofR EAuok noSum_ok (kf:=[2,8,9,10,11,12]) (Q1:=fun r=>r=(.normal,f6j k0 mp P i (mkdG mk c se L i 0) 0,W)) (Eq.mp (vcWj k0 mp i (mkdG mk c se L i 0) P W (fun r=>r=(.normal,f6j k0 mp P i (mkdG mk c se L i 0) 0,W))) rfl) (fun e F Y hz=>hz)) ?_
  exact Trip.turns (P:=Tryz.prog) (kb:=kb) (ro:=none) (L:=LI6) (id:=2) (n:=L.length) (T:=fun j=>(f6j k0 mp P i (mkdG mk c se L i j) j,W)) (F:=f6g k0 mp P i (mkdG mk c se L i L.length)) (Z:=W) (fun j hj=>hot_turn g hP hj hL (by omega)) (Trip.ofR EAuok noSum_ok (kf:=[2,8,9,10,11]) (Q1:=fun r=>r=(.exit 2,f6g k0 mp P i (mkdG mk c se L i L.length),W)) (Eq.mp (vcWn k0 mp i L.length L.length (mkdG mk c se L i L.length) P W (fun r=>r=(.exit 2,f6g k0 mp P i (mkdG mk c se L i L.length),W))) ⟨hP.len (E:=EAu),lF (Nat.le_refl _),rfl⟩) (fun e F Y hz=>hz))
 ·have h32:=has_at (S:=W) hm hs hk i
  rw[decide_eq_true hi,Bool.true_and,he] at h32
  exact Trip.ofR EAuok (onlyC_ok (oneC_ok h32)) (kf:=[2,8,9,10]) (Q1:=fun r=>r=(.normal,f6i k0 mp P i,W)) (Eq.mp (vcWo _ k0 mp i (mkdG mk c se L i L.length) P W (fun r=>r=(.normal,f6i k0 mp P i,W))) ⟨ca oneC_at,neqBo,rfl⟩) (fun e F Y hz=>hz)
theorem tail_p (g:W.h.get k0=some (.cells (mL k x c y t mk se nu ho) true)) (hP:HotP base W P L) (hm:W.h.get mp=some (mapO k s)) (hs:s<18446744073709551616) (hk:k≤64) (hL:L.length<1000) (hse:se<18446744073709551616) (he:∀i,i<k→has s i=mkdG mk c se L i L.length) :
  Trip Tryz.prog kb none (dropC 8 c6) (f6 k0 mp P) W fun r=>r=(.ret,xFr [(4,.bool true)] 120,W):=by
 have ldk:aLoad EAu 3 (.ptr (some (k0,0))) W=some (.int .i64 (.ofNat k),W):=load_at (by kernel_rfl) g (by kernel_rfl)
 rw[sh6]
 refine Trip.then (F:=xFr [] 120) (Z:=W) ?_ (Trip.ofR EAuok (onlyC_ok (pureC_ok lw.known_at)) (kf:=[4]) (Q1:=fun r=>r=(.ret,xFr [(4,.bool true)] 120,W)) (Eq.mp (vcWq _ W (fun r=>r=(.ret,xFr [(4,.bool true)] 120,W))) ⟨ca (pureC_at ..),rfl⟩) (fun e F Y hz=>hz))
 refine Trip.then (F:=f6i k0 mp P 0) (Z:=W) (Trip.ofR EAuok noSum_ok (kf:=[2,8,9,10]) (Q1:=fun r=>r=(.normal,f6i k0 mp P 0,W)) (Eq.mp (vcWe k0 mp P W (fun r=>r=(.normal,f6i k0 mp P 0,W))) rfl) (fun e F Y hz=>hz)) ?_
 exact Trip.turns (P:=Tryz.prog) (kb:=kb) (ro:=none) (L:=L6) (id:=0) (n:=k) (T:=fun i=>(f6i k0 mp P i,W)) (F:=xFr [] 120) (Z:=W) (fun i hi=>blk_turn g hP hm hs hk hi hL hse (he i hi)) (Trip.ofR EAuok noSum_ok (kf:=[]) (Q1:=fun r=>r=(.exit 0,xFr [] 120,W)) (Eq.mp (vcWg k0 mp k k P W (fun r=>r=(.exit 0,xFr [] 120,W))) ⟨ldk,lF (Nat.le_refl _),rfl⟩) (fun e F Y hz=>hz))
end
end Go.Proofs.YtiafochainjglaaGreatDoor.drp.atu
end
