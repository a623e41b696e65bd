/-
  OWN WORK, A PART: an abstract machine for the program's text that the kernel can run, and the proof that it is sound: what it answers is what the program answers; contracts of functions by it. No condition.
-/
import Derived.Shelf.SlMaps.Clone
import Derived.Test.YtiafochainjglaaGreatDoorWaF
import Derived.Test.YtiafochainjglaaGreatDoorMtA
import Derived.Test.YtiafochainjglaaGreatDoorMtH
import Derived.KernelRfl
import Derived.Test.YtiafochainjglaaGreatDoorKaK
section
open Go Go.Ax Go.Proofs Go.RowKit
namespace Go.Proofs.YtiafochainjglaaGreatDoor.mpc
end Go.Proofs.YtiafochainjglaaGreatDoor.mpc
end

section
open Go Go.Ax Go.Proofs
namespace Go.Proofs.YtiafochainjglaaGreatDoor.drp.cp
open dsk (EK)
set_option linter.unusedVariables false
noncomputable def fnsV:List (Nat×Func):=[(74,Tryz.f74),(75,Tryz.f75),(23,Tryz.f23),(64,Tryz.f64),(20,Tryz.f20),(67,Tryz.f67),(22,Tryz.f22)]
noncomputable def EQv:Env:=envEx Tryz.prog [0,3,4,5,37,43,54,60,102,103,104,111] fnsV []
noncomputable def c22:Code:=Option.getD Tryz.f22.body .skip
noncomputable def L22:Code:=lopB (blkB (seqR (seqL (dropC 1 c22))))
noncomputable abbrev kCfF_0:=TM EQv noSum [(20,⟨[9,3,13,18,19,4095,4094],[5,14],[],[]⟩),(64,⟨[9],[],[],[]⟩),(67,⟨[7],[],[],[]⟩)] fl0 60
noncomputable abbrev kCfF_2 (a:CallT):=TM EQv (onlyC [73,56,74,75,68] a) [(20,⟨[9,3,13,18,19,4095,4094],[5,14],[],[]⟩),(64,⟨[9],[],[],[]⟩),(67,⟨[7],[],[],[]⟩)] fl0 60
noncomputable def tK0 (d:Nat) (S:ASt):Tr (Exit×AFr×ASt):=kCfF_0.ex ⟨[],[],[],[]⟩ none (preC 1 c22) {m:=putArgs [.ptr (some (d,0))] 0 .e,n:=24,defs:=[]} S
noncomputable def tK1 (d:Nat) (S:ASt):Tr (Exit×AFr×ASt):=kCfF_0.ex ⟨[],[],[],[]⟩ none (seqL (seqL (dropC 1 c22))) (xFr [(0,.ptr (some (d,0))),(3,.slice none 0 (.known 0))] 24) S
noncomputable def tKb (q:CallT) (d n i k0 k1:Nat) (A:AV) (B:List Nat) (S S1 S2 S3:ASt):Tr (Exit×AFr×ASt):=(kCfF_2 q).ex ⟨[9,10,16,5,20,22,12,4095],[],[],[]⟩ none L22 (xFr [(0,.ptr (some (d,0))),(3,A),(4,.int .i64 (.ofNat i))] 24) S
noncomputable def tKx (q:CallT) (d n i:Nat) (A:AV) (S:ASt):Tr (Exit×AFr×ASt):=(kCfF_2 q).ex ⟨[9,10,16,5,20,22,12,4095],[],[],[]⟩ none L22 (xFr [(0,.ptr (some (d,0))),(3,A),(4,.int .i64 (.ofNat i))] 24) S
noncomputable def tK9 (A:AV) (S:ASt):Tr (Exit×AFr×ASt):=kCfF_0.ex ⟨[],[],[],[]⟩ none (dropC 2 c22) (xFr [(3,A)] 24) S
noncomputable abbrev kCfF_1 (a:Nat):=AV.int .i64 (.ofNat a)
noncomputable abbrev kCfF_3 (a b c:Nat):=aLoad EQv a (AV.ptr (some (b,c)))
noncomputable abbrev kCfF_4 (a:CallT) (b:Nat):=M EQv (drawA EQv) (onlyC [73,56,74,75,68] a) b
theorem vcK0 (d:Nat) (S:ASt) (Q:Exit×AFr×ASt→Prop) :
 Vq (tK0 d S) (fun r=>Q (rawR [0,3] r)) (aq (Q (.normal,xFr [(0,.ptr (some (d,0))),(3,.slice none 0 (.known 0))] 24,S))):=vq (by kernel_rfl)
theorem vcK1 (d:Nat) (S:ASt) (Q:Exit×AFr×ASt→Prop) :
 Vq (tK1 d S) (fun r=>Q (rawR [0,3,4] r)) (aq (Q (.normal,xFr [(0,.ptr (some (d,0))),(3,.slice none 0 (.known 0)),(4,.int .i64 (.ofNat 0))] 24,S))):=vq (by kernel_rfl)
theorem vcKb (q:CallT) (d n i k0 k1:Nat) (A:AV) (B:List Nat) (S S1 S2 S3:ASt) (Q:Exit×AFr×ASt→Prop) :
 Vq (tKb q d n i k0 k1 A B S S1 S2 S3) (fun r=>Q (rawR [0,3,4] r)) (al ((kCfF_4 q 57).call 73 [.ptr (some (d,0))]) S (kCfF_1 n) (as_ S (aBin EQv .lss 3 (.tmp 7) (.tmp 9) (kCfF_1 i) (kCfF_1 n)) (.bool true) (al ((kCfF_4 q 55).call 56 [.ptr (some (d,0)),.int .i64 (.ofNat i)]) S (.tuple [.agg (bl B),.int .i64 (.ofNat 0)]) (aa (aAlloc EQv 54 S) (.ptr (some (k0,0)),S1) (aa (Option.map (fun s=>(undefA,s)) (aStore EQv 54 (.ptr (some (k0,0))) (.agg (bl B)) S1)) (.tuple [],S2) (al (kCfF_3 54 k0 0) S2 (.agg (bl B)) (aa (aBuiltinM EQv .append [60,60] [A,.slice (some (S2.next,0)) 1 (.known 1)] (ASt.add S2 (.cells (bl B) true))) (.slice (some (k1,0)) (i+1) (.rest 256),S3) (as_ S3 (aBin EQv .add 3 (.tmp 11) (.const (.int .i64 1)) (kCfF_1 i) (kCfF_1 1)) (.int .i64 (.ofNat (i+1))) (aq (Q (.normal,xFr [(0,.ptr (some (d,0))),(3,.slice (some (k1,0)) (i+1) (.rest 256)),(4,.int .i64 (.ofNat (i+1)))] 24,S3))))))))))):=vq (by kernel_rfl)
theorem vcKx (q:CallT) (d n i:Nat) (A:AV) (S:ASt) (Q:Exit×AFr×ASt→Prop) :
 Vq (tKx q d n i A S) (fun r=>Q (rawR [3] r)) (al ((kCfF_4 q 57).call 73 [.ptr (some (d,0))]) S (kCfF_1 n) (as_ S (aBin EQv .lss 3 (.tmp 7) (.tmp 9) (kCfF_1 i) (kCfF_1 n)) (.bool false) (aq (Q (.exit 0,xFr [(3,A)] 24,S))))):=vq (by kernel_rfl)
theorem vcK9 (A:AV) (S:ASt) (Q:Exit×AFr×ASt→Prop) :
 Vq (tK9 A S) (fun r=>Q (rawR [2] r)) (aq (Q (.ret,xFr [(2,A)] 24,S))):=vq (by kernel_rfl)
end Go.Proofs.YtiafochainjglaaGreatDoor.drp.cp
end

section
open Go Go.Ax Go.Proofs
namespace Go.Proofs.YtiafochainjglaaGreatDoor.drp.cp
open dsk (EK EKok pO rowB En ents entO vers curB Disk dK sB al_b look_old look_new ld_m gtr0 sub1 sl_s ld_row split_at vers_nil rowB_len)
set_option linter.unusedVariables false
theorem EQok2:Env.Ok Tryz.prog EQv:=envEx_ok (xs:=[]) ⟨⟨Tryz.func74,Tryz.call74⟩,⟨Tryz.func75,Tryz.call75⟩,⟨Tryz.func23,Tryz.call23⟩,⟨Tryz.func64,Tryz.call64⟩,⟨Tryz.func20,Tryz.call20⟩,⟨Tryz.func67,Tryz.call67⟩,⟨Tryz.func22,Tryz.call22⟩,trivial⟩ trivial (by kernel_rfl)
section
variable {S:ASt} {d l m ck i:Nat} {C:Cap} {las:List (List Nat)} {es:List En}
end
section
variable {Y:ASt} {a b:Nat} {x y:Operand}
theorem lssV2:still Y (aBin EQv .lss 3 x y (.int .i64 (.ofNat a)) (.int .i64 (.ofNat b)))=some (.bool (decide (a<b)),Y):=by
 have e:aBin EQv .lss 3 x y (.int .i64 (.ofNat a)) (.int .i64 (.ofNat b))=some (.bool (ltF (.ofNat a) (.ofNat b))):=by kernel_rfl
 rw[ltF_nn] at e
 exact still_of e
theorem addV2 (h:a+b<1000000):still Y (aBin EQv .add 3 x y (.int .i64 (.ofNat a)) (.int .i64 (.ofNat b)))=some (.int .i64 (.ofNat (a+b)),Y):=by
 have e:aBin EQv .add 3 x y (.int .i64 (.ofNat a)) (.int .i64 (.ofNat b))=some (.int .i64 (wrapF .i64 (.ofNat a+.ofNat b))):=by kernel_rfl
 rw[show (Int.ofNat a+Int.ofNat b)=Int.ofNat (a+b) from rfl,wrap_nat (by omega)] at e
 exact still_of e
end
theorem shK:dropC 1 c22=.seq (.seq (seqL (seqL (dropC 1 c22))) (.block 0 (.loop L22))) (dropC 2 c22):=by kernel_rfl
section
variable {S:ASt} {l l2 n:Nat} {C C2:Cap} {L:List (List Nat)}
end
section
variable {S:ASt} {d o l l2 m m2 n ck ck2:Nat} {C C2:Cap} {las:List (List Nat)} {es:List En}
end
end Go.Proofs.YtiafochainjglaaGreatDoor.drp.cp
end

section
open Go Go.Ax Go.Proofs
namespace Go.Proofs.YtiafochainjglaaGreatDoor.drp.cp
open dsk (EK EKok pO rowB En ents entO vers curB Disk dK sB rowB_len)
set_option linter.unusedVariables false
section
open Go.Shelf Go.RowKit
end
section
variable {base d l m n c:Nat} {S0 S:ASt} {las:List (List Nat)} {es:List En}
noncomputable def kill (N:Nat):Nat→ASt→ASt
 | 0,X=>X
 | j+1,X=>X.put (N+3*j+2) .dead
theorem kill_next (N i:Nat) (X:ASt):(kill N i X).next=X.next:=by cases i<;>rfl
theorem kill_old {N i k:Nat} {X:ASt} (h:k<N):(kill N i X).h.get k=X.h.get k:=by
 cases i with
 | zero=>rfl
 | succ j=>exact put_ne (by omega)
theorem kill_tidy {N i:Nat} {X:ASt} (h:Tidy X) (hn:N+3*i≤X.next):Tidy (kill N i X):=by
 cases i with
 | zero=>exact h
 | succ j=>exact h.put (by omega)
noncomputable def bst (b:Nat→List Nat) (S:ASt):Nat→ASt
 | 0=>S
 | i+1=>(kill S.next i ((((bst b S i).add (.cells (bl []) true)).put (bst b S i).next (.cells (bl (b i)) true)).add (.cells (bl (b i)) true))).add (.cells (rowB ((List.range (i+1)).map b)) true)
def bsl (S:ASt):Nat→AV
 | 0=>.slice none 0 (.known 0)
 | i+1=>.slice (some (S.next+3*i+2,0)) (i+1) (.rest 256)
theorem bst_next (b:Nat→List Nat) (S:ASt):∀i,(bst b S i).next=S.next+3*i
 | 0=>rfl
 | i+1=>by
  have:=bst_next b S i
  unfold bst
  rw[add_next,kill_next,add_next,put_next,add_next]
  omega
theorem bst_tidy (b:Nat→List Nat) {S:ASt} (ht:Tidy S):∀i,Tidy (bst b S i)
 | 0=>ht
 | i+1=>(kill_tidy ((((bst_tidy b ht i).add).put (by rw[add_next];omega)).add) (by rw[add_next,put_next,add_next,bst_next];omega)).add
theorem bst_old (b:Nat→List Nat) (S:ASt):∀i k,k<S.next→(bst b S i).h.get k=S.h.get k
 | 0,k,hk=>rfl
 | i+1,k,hk=>by
  have hn:=bst_next b S i
  have ih:=bst_old b S i k hk
  unfold bst
  rw[add_ne (by rw[kill_next,add_next,put_next,add_next];omega),kill_old hk,add_ne (by rw[put_next,add_next];omega),put_ne (by omega),add_ne (by omega),ih]
theorem bst_row (b:Nat→List Nat) (S:ASt) (i:Nat):(bst b S (i+1)).h.get (S.next+3*i+2)=some (.cells (rowB ((List.range (i+1)).map b)) true):=by
 have hn:=bst_next b S i
 unfold bst
 have e:S.next+3*i+2=(kill S.next i ((((bst b S i).add (.cells (bl []) true)).put (bst b S i).next (.cells (bl (b i)) true)).add (.cells (bl (b i)) true))).next:=by
  rw[kill_next,add_next,put_next,add_next];omega
 rw[e];exact add_at
theorem bl_d {D:Nat→Prop} (b:List Nat):refsDs D (bl b):=refsDs_all.2 fun v hv=>by
 unfold bl at hv
 obtain⟨y,_,rfl⟩:=List.mem_map.1 hv
 simp[cellU,refsD]
theorem rowB_d {D:Nat→Prop} (L:List (List Nat)):refsDs D (rowB L):=refsDs_all.2 fun v hv=>by
 unfold rowB at hv
 obtain⟨b,_,hb⟩:=List.mem_flatMap.1 hv
 exact refsDs_all.1 (bl_d b) v hb
theorem bst_new (b:Nat→List Nat) (S:ASt):∀i k a,(bst b S i).h.get k=some a→S.h.get k=some a∨(S.next≤k∧∀D,refsB D a)
 | 0,k,a,h=>.inl h
 | i+1,k,a,h=>by
  have hn:=bst_next b S i
  unfold bst at h
  rw[add_gets] at h
  split at h
  ·rename_i hk
   cases h
   exact .inr ⟨by rw[hk,kill_next,add_next,put_next,add_next];omega,fun D=>rowB_d _⟩
  have h2:((((bst b S i).add (.cells (bl []) true)).put (bst b S i).next (.cells (bl (b i)) true)).add (.cells (bl (b i)) true)).h.get k=some a∨(S.next≤k∧∀D,refsB D a):=by
   cases i with
   | zero=>exact .inl h
   | succ j =>
    unfold kill at h
    rw[put_gets] at h
    split at h
    ·rename_i hk
     cases h
     exact .inr ⟨by omega,fun D=>trivial⟩
    ·exact .inl h
  rcases h2 with h | h
  ·rw[add_gets] at h
   split at h
   ·rename_i hk
    cases h
    exact .inr ⟨by rw[hk,put_next,add_next];omega,fun D=>bl_d _⟩
   rw[put_gets] at h
   split at h
   ·rename_i hk
    cases h
    exact .inr ⟨by omega,fun D=>bl_d _⟩
   rename_i hk2
   rw[add_ne (by omega)] at h
   exact bst_new b S i k a h
  ·exact .inr h
noncomputable def fK (d:Nat) (A:AV) (i:Nat):AFr:=xFr [(0,.ptr (some (d,0))),(3,A),(4,.int .i64 (.ofNat i))] 24
theorem blocks_at (h:Dsk S d las es) (hn:las.length=n) (hn0:0<n) (hn2:n<100000):Call1 Tryz.prog 22 [.ptr (some (d,0))] S (.slice (some (S.next+3*(n - 1)+2,0)) n (.rest 256),bst (nb las es) S n):=by
 have hq:CallsOK Tryz.prog (diskC d las es):=diskC_ok
 have hk:∀i,Dsk (bst (nb las es) S i) d las es:=fun i=>by
  obtain⟨⟨a,b,c,hd⟩,ht,hf,hb⟩:=h
  exact⟨⟨a,b,c,hd.keep ht (bst_old _ S i)⟩,bst_tidy _ ht i,hf,hb⟩
 refine Call2.up (Call2.of_trip EQok2 (fn:=Tryz.f22) (c:=c22) (by kernel_rfl) (by kernel_rfl) (by kernel_rfl) ?_) (by rw[bst_next];omega) (fun k a hg hd=>?_) (show Go.Ax.Good S _ from .inl (by omega))
 ·refine Trip.preR EQok2 noSum_ok (k:=1) (kf:=[0,3]) (by kernel_rfl) (Q1:=fun z=>z=(.normal,xFr [(0,.ptr (some (d,0))),(3,.slice none 0 (.known 0))] 24,S)) (Eq.mp (vcK0 d S (fun z=>z=(.normal,xFr [(0,.ptr (some (d,0))),(3,.slice none 0 (.known 0))] 24,S))) rfl) ?_ (fun q h1 h2=>absurd (congrArg (·.1) h2) h1)
  rintro F Z hZ
  cases hZ
  rw[shK]
  refine Trip.seq (R:=fun z=>z=(.normal,xFr [(3,bsl S n)] 24,bst (nb las es) S n)) ?_ (fun F Z hz=>?_) (fun e F Z he hz=>by cases hz;exact absurd rfl he)
  ·refine Trip.seq (R:=fun z=>z=(.normal,fK d (bsl S 0) 0,S)) (Trip.ofR EQok2 noSum_ok (kf:=[0,3,4]) (Q1:=fun z=>z=(.normal,fK d (bsl S 0) 0,S)) (Eq.mp (vcK1 d S (fun z=>z=(.normal,fK d (bsl S 0) 0,S))) rfl) (fun e F Z h=>h)) (fun F Z hz=>?_) (fun e F Z he hz=>by cases hz;exact absurd rfl he)
   cases hz
   refine Trip.block (Trip.loop (fun m fr st=>∃i,i≤n∧m=n - i∧fr=fK d (bsl S i) i∧st=bst (nb las es) S i) ?_ n ⟨0,Nat.zero_le _,rfl,rfl,rfl⟩)
   rintro m fr st ⟨i,hi,rfl,rfl,rfl⟩
   have hN:=bst_next (nb las es) S i
   by_cases hin:i<n
   ·obtain⟨X,hX⟩:∃X,X=bst (nb las es) S i:=⟨_,rfl⟩
    have htX:Tidy X:=by rw[hX];exact bst_tidy _ h.tidy i
    have o0:=Ov.nil htX
    obtain⟨S1,e1,o1⟩:=o0.add (.cells (bl []) true)
    have st1:aStore EQv 54 (.ptr (some (X.next,0))) (.agg (bl (nb las es i))) S1=some (S1.put X.next (.cells (bl (nb las es i)) true)):=storeW_at (by kernel_rfl) (bl_len _) (bl_len _) (by rw[e1];exact add_at)
    obtain⟨S2,e2⟩:∃Y,Y=S1.put X.next (.cells (bl (nb las es i)) true):=⟨_,rfl⟩
    obtain⟨S2b,e2b⟩:∃Y,Y=S2.add (.cells (bl (nb las es i)) true):=⟨_,rfl⟩
    have hS3:bst (nb las es) S (i+1)=(kill S.next i S2b).add (.cells (rowB ((List.range (i+1)).map (nb las es))) true):=by rw[e2b,e2,e1,hX];rfl
    have hk2:S2.h.get X.next=some (.cells (bl (nb las es i)) true):=by rw[e2];exact put_at
    have n1:S1.next=X.next+1:=by rw[e1,add_next]
    have n2:S2.next=X.next+1:=by rw[e2,put_next,n1]
    have n2b:S2b.next=X.next+2:=by rw[e2b,add_next,n2]
    have hfir:aFirst S2b 256 1 (.slice (some (S2.next,0)) 1 (.known 1))=some (bl (nb las es i)):=first_at (cs:=bl (nb las es i)) (rw:=true) (by rw[e2b];exact add_at) (by have:=takeL_all (X:=bl (nb las es i));rw[bl_len] at this;exact this)
    have ap:aBuiltinM EQv .append [60,60] [bsl S i,.slice (some (S2.next,0)) 1 (.known 1)] S2b=some (.slice (some (S2b.next,0)) (i+1) (.rest 256),bst (nb las es) S (i+1)):=by
     rw[hS3]
     cases i with
     | zero =>
      rw[show (List.range (0+1)).map (nb las es)=[nb las es 0] from rfl,dsk.rowB_one]
      exact append_nil_at (b:=256) (by kernel_rfl) rfl hfir (by decide) (by omega) (by omega)
     | succ j =>
      have hrow:S2b.h.get (S.next+3*j+2)=some (.cells (rowB ((List.range (j+1)).map (nb las es))) true):=by
       have h0:=bst_row (nb las es) S j
       have hNj:=bst_next (nb las es) S (j+1)
       rw[e2b,add_ne (by rw[n2,hX];omega),e2,put_ne (by rw[hX];omega),e1,add_ne (by rw[hX];omega),hX]
       exact h0
      have e:rowB ((List.range (j+1+1)).map (nb las es))=rowB ((List.range (j+1)).map (nb las es))++bl (nb las es (j+1)):=by
       rw[List.range_succ,List.map_append,dsk.rowB_app,List.map_singleton,dsk.rowB_one]
      rw[e]
      exact append_grow_at (b:=256) (l:=j+1) (by kernel_rfl) rfl hfir hrow (by rw[rowB_len,List.length_map,List.length_range]) (by decide) (by decide) (by omega) (by omega)
    rw[←hX]
    refine Trip.ofR EQok2 (onlyC_ok hq) (kf:=[0,3,4]) (Q1:=fun z=>z=(.normal,fK d (bsl S (i+1)) (i+1),bst (nb las es) S (i+1))) (Eq.mp (vcKb (diskC d las es) d n i X.next S2b.next (bsl S i) (nb las es i) X S1 S2 (bst (nb las es) S (i+1)) (fun z=>z=(.normal,fK d (bsl S (i+1)) (i+1),bst (nb las es) S (i+1)))) ?_) (fun e F Z hq=>?_)
    ·have hkX:Dsk X d las es:=by rw[hX];exact hk i
     refine⟨ca (by have:=diskC_b hkX;rw[hn] at this;exact this),by rw[lssV2,decide_eq_true hin],ca (diskC_r hkX (by omega)),o0.al e1,okS_of (by rw[e2];exact st1),load_agg (z:=256) (by kernel_rfl) hk2 (by have:=takeL_all (X:=bl (nb las es i));rw[bl_len] at this;exact this),by rw[←e2b];exact ap,addV2 (by omega),?_⟩
     rw[show bsl S (i+1)=.slice (some (S2b.next,0)) (i+1) (.rest 256) by rw[n2b,hX,hN];rfl]
     rfl
    ·cases hq
     exact⟨n - (i+1),fK d (bsl S (i+1)) (i+1),bst (nb las es) S (i+1),by omega,Wk.refl _ _ _,i+1,hin,rfl,rfl,rfl⟩
   ·have:i=n:=by omega
    subst this
    refine Trip.ofR EQok2 (onlyC_ok hq) (kf:=[3]) (Q1:=fun z=>z=(.exit 0,xFr [(3,bsl S i)] 24,bst (nb las es) S i)) (Eq.mp (vcKx (diskC d las es) d i i (bsl S i) (bst (nb las es) S i) (fun z=>z=(.exit 0,xFr [(3,bsl S i)] 24,bst (nb las es) S i))) ⟨ca (by have:=diskC_b (hk i);rw[hn] at this;exact this),by rw[lssV2,decide_eq_false hin],rfl⟩) (fun e F Z hq=>?_)
    cases hq
    exact⟨fun _=>rfl,fun h=>absurd rfl h⟩
  ·cases hz
   refine Trip.ofR EQok2 noSum_ok (kf:=[2]) (Q1:=fun z=>z=(.ret,xFr [(2,bsl S n)] 24,bst (nb las es) S n)) (Eq.mp (vcK9 (bsl S n) (bst (nb las es) S n) (fun z=>z=(.ret,xFr [(2,bsl S n)] 24,bst (nb las es) S n))) rfl) (fun e F Z hq=>?_)
   cases hq
   refine⟨.inr rfl,leave_of (rs:=[.tmp 2]) (vs:=[bsl S n]) (by kernel_rfl) rfl (res_tmp (by kernel_rfl) res_nil) ?_⟩
   obtain⟨j,rfl⟩:∃j,n=j+1:=⟨n - 1,by omega⟩
   rfl
 ·rcases bst_new (nb las es) S n k a hg with h1 | ⟨h1,h2⟩
  ·exact .inl h1
  ·exact .inr ⟨.inl h1,h2 _⟩
end
end Go.Proofs.YtiafochainjglaaGreatDoor.drp.cp
end

section
open Go Go.Ax Go.Proofs
namespace Go.Proofs.YtiafochainjglaaGreatDoor.drp.lw
set_option linter.unusedVariables false
noncomputable def fnsW:List (Nat×Func):=[(5,Tryz.f5),(14,Tryz.f14)]
noncomputable def EWl:Env:=envEx Tryz.prog [0,3,4,5,23,24,25,27,28,29,30,31,32,33,34,35,36,37,43,51,54,55,56,60,103,104,111] fnsW []
noncomputable def tG1 (z:Int) (S:ASt):Tr (AV×ASt):=(TM EWl noSum [(14,⟨[6,9],[],[],[]⟩)] fl0 60).call 14 [.int .i64 z] S
noncomputable def tG2 (z:Int) (S:ASt):Tr (AV×ASt):=(TM EWl noSum [(14,⟨[6,9],[],[],[]⟩)] fl0 60).call 14 [.int .i64 z] S
noncomputable abbrev kCfJ_1 (a:Nat):=AV.int .i64 (.ofNat a)
theorem vcG1 (z:Int) (S:ASt) (Q:AV×ASt→Prop) :
 Vq (tG1 z S) Q (as_ S (aBin EWl .lss 3 (.tmp 5) (.const (.int .i64 1)) (.int .i64 z) (kCfJ_1 1)) (.bool true) (aq (Q (.ptr none,S)))):=vq (by kernel_rfl)
theorem vcG2 (z:Int) (S:ASt) (Q:AV×ASt→Prop) :
 Vq (tG2 z S) Q (as_ S (aBin EWl .lss 3 (.tmp 5) (.const (.int .i64 1)) (.int .i64 z) (kCfJ_1 1)) (.bool false) (as_ S (aBin EWl .gtr 3 (.tmp 8) (.const (.int .i64 64)) (.int .i64 z) (kCfJ_1 64)) (.bool true) (aq (Q (.ptr none,S))))):=vq (by kernel_rfl)
end Go.Proofs.YtiafochainjglaaGreatDoor.drp.lw
end

section
open Go Go.Ax Go.Proofs
namespace Go.Proofs.YtiafochainjglaaGreatDoor.drp.lw
open cd9 (pureC pureC_ok pureC_at pureC_no)
open cp sh rt my fm
set_option linter.unusedVariables false
theorem EWok:Env.Ok Tryz.prog EWl:=envEx_ok (xs:=[]) ⟨⟨Tryz.func5,Tryz.call5⟩,⟨Tryz.func14,Tryz.call14⟩,trivial⟩ trivial (by kernel_rfl)
def s0:TypeDesc→AV→Bool
 | .bool,.bool _=>true
 | .int _,.int _ _=>true
 | _,_=>false
def sLs (d:TypeDesc):Nat→List AV→Bool
 | 0,_=>true
 | n+1,x::xs=>s0 d x && sLs d n xs
 | _+1,_=>false
noncomputable def sFs (E:Env) (eq:TypeId→AV→Bool) (xs:List AV):List (TypeId×Nat)→Bool
 | []=>true
 | f::fs=>match aPart E f.1 xs f.2 with
  | some a=>eq f.1 a && sFs E eq xs fs
  | none=>false
noncomputable def sEq (E:Env):Nat→TypeId→AV→Bool
 | 0=>fun _ _=>false
 | d+1=>fun t x =>
  match E.ty.get t with
  | none=>false
  | some ti =>
   match x with
   | .agg xs=>(match ti.desc with
    | .struct _=>bif ti.held then false else sFs E (sEq E d) xs ti.fl
    | .array n e=>(match E.ty.get e with
     | some ei=>bif isAggD ei.desc then false else bif Nat.beq ei.size 1 then sLs ei.desc n xs else false
     | none=>false)
    | _=>false)
   | x=>s0 ti.desc x
theorem s0_ok {d:TypeDesc} {x:AV} (h:s0 d x=true):aEq0 d x x=some true:=by
 cases d<;>cases x<;>simp only[s0,Bool.false_eq_true] at h
 ·rename_i b;cases b<;>rfl
 ·rename_i k z
  simp only[aEq0]
  rw[show kEq k k=true by cases k<;>rfl,eqF_self];rfl
theorem sLs_ok {d:TypeDesc} {e:TypeId}:∀(n:Nat) (xs:List AV),sLs d n xs=true→eqLs (fun _ x y=>aEq0 d x y) e n xs xs=some true
 | 0,xs,h=>rfl
 | n+1,[],h=>by simp[sLs] at h
 | n+1,x::xs,h=>by
  simp only[sLs,Bool.and_eq_true] at h
  simp only[eqLs,s0_ok h.1]
  exact sLs_ok n xs h.2
theorem sFs_ok {E:Env} {eq:TypeId→AV→Bool} {eq2:TypeId→AV→AV→Option Bool} (he:∀t x,eq t x=true→eq2 t x x=some true) (xs:List AV):∀fs,sFs E eq xs fs=true→eqFs E eq2 xs xs fs=some true
 | [],h=>rfl
 | f::fs,h=>by
  simp only[sFs] at h
  simp only[eqFs]
  split at h
  ·rename_i a ha
   rw[Bool.and_eq_true] at h
   rw[ha]
   simp only[he _ _ h.1]
   exact sFs_ok he xs fs h.2
  ·cases h
theorem sEq_ok {E:Env}:∀(d:Nat) (t:TypeId) (x:AV),sEq E d t x=true→aEq E d t x x=some true
 | 0,t,x,h=>by simp[sEq] at h
 | d+1,t,x,h=>by
  unfold sEq at h
  unfold aEq
  cases hti:E.ty.get t with
  | none=>rw[hti] at h;cases h
  | some ti =>
  rw[hti] at h
  cases x with
  | agg xs =>
   simp only at h ⊢
   cases hd:ti.desc with
   | struct fs =>
    rw[hd] at h
    simp only at h ⊢
    cases hh:ti.held
    ·rw[hh,cond_false] at h
     rw[cond_false]
     exact sFs_ok (sEq_ok d) xs _ h
    ·rw[hh,cond_true] at h;cases h
   | array n e =>
    rw[hd] at h
    simp only at h ⊢
    cases hei:E.ty.get e with
    | none=>rw[hei] at h;cases h
    | some ei =>
     rw[hei] at h
     simp only at h ⊢
     cases ha:isAggD ei.desc
     ·rw[ha,cond_false] at h
      rw[cond_false]
      cases hb:Nat.beq ei.size 1
      ·rw[hb,cond_false] at h;cases h
      ·rw[hb,cond_true] at h
       rw[cond_true]
       exact sLs_ok n xs h
     ·rw[ha,cond_true] at h;cases h
   | _=>rw[hd] at h;cases h
  | _=>exact s0_ok h
section
variable {Y:ASt} {a b:Nat} {z:Int} {x y:Operand}
theorem lssWz:still Y (aBin EWl .lss 3 x y (.int .i64 z) (.int .i64 (.ofNat 1)))=some (.bool (decide (z<1)),Y):=by
 have e:aBin EWl .lss 3 x y (.int .i64 z) (.int .i64 (.ofNat 1))=some (.bool (ltF z (.ofNat 1))):=by kernel_rfl
 rw[ltF_eq] at e
 exact still_of e
theorem gtrWz:still Y (aBin EWl .gtr 3 x y (.int .i64 z) (.int .i64 (.ofNat 64)))=some (.bool (decide ((64:Int)<z)),Y):=by
 have e:aBin EWl .gtr 3 x y (.int .i64 z) (.int .i64 (.ofNat 64))=some (.bool (ltF (.ofNat 64) z)):=by kernel_rfl
 rw[ltF_eq] at e
 exact still_of e
end
def encP (p:Int×List Nat):List AV:=.int .i64 p.1::bl p.2
theorem encP_len (p:Int×List Nat):(encP p).length=257:=by unfold encP;rw[List.length_cons,bl_len]
theorem takeL_app {A B C:List AV} {o n:Nat} (h1:A.length=o) (h2:B.length=n):takeL (A++(B++C)) o n=some B:=by
 unfold takeL
 have e:((A++(B++C)).drop o).take n=B:=by
  rw[←h1,List.drop_left,←h2,List.take_left]
 rw[e]
 show (bif Nat.beq B.length n then some B else none)=some B
 rw[h2,show Nat.beq n n=true from Nat.beq_refl n];rfl
theorem encP_b {ps:List (Int×List Nat)} {i:Nat} {p:Int×List Nat} (h:ps[i]? = some p):takeL (ps.flatMap encP) (0+i*257+1) 256=some (bl p.2):=by
 obtain⟨hi,rfl⟩:=List.getElem?_eq_some_iff.1 h
 have e:ps=ps.take i++ps[i]::ps.drop (i+1):=by rw[List.getElem_cons_drop,List.take_append_drop]
 have e2:ps.flatMap encP=((ps.take i).flatMap encP++[.int .i64 ps[i].1])++(bl ps[i].2++(ps.drop (i+1)).flatMap encP):=by
  conv=>lhs;rw[e]
  rw[List.flatMap_append,List.flatMap_cons]
  unfold encP
  simp
 rw[e2]
 refine takeL_app ?_ (bl_len _)
 rw[List.length_append,fm_len encP_len,List.length_take,Nat.min_eq_left (by omega)]
 simp
theorem known_at (S:ASt):Call1 Tryz.prog 9 [] S (.bool true,S):=Call1.of (sumC_ok (l:=[⟨9,[],.bool true⟩]) ⟨metaNil.memo9,trivial⟩) (by kernel_rfl)
theorem formatted_no {z:Int} (h:z<1∨64<z) (S:ASt):Call1 Tryz.prog 14 [.int .i64 z] S (.ptr none,S):=by
 by_cases h1:z<1
 ·exact Call1.of_tm EWok noSum_ok (Eq.mp (vcG1 z S (fun q=>q=(.ptr none,S))) ⟨by rw[lssWz,decide_eq_true h1],rfl⟩)
 ·exact Call1.of_tm EWok noSum_ok (Eq.mp (vcG2 z S (fun q=>q=(.ptr none,S))) ⟨by rw[lssWz,decide_eq_false h1],by rw[gtrWz,decide_eq_true (by omega)],rfl⟩)
end Go.Proofs.YtiafochainjglaaGreatDoor.drp.lw
end

section
open Go Go.Ax Go.Proofs
namespace Go.Proofs.YtiafochainjglaaGreatDoor.drp.lw
open cd9 (pureC pureC_ok pureC_at pureC_no)
open cp sh rt my fm
set_option linter.unusedVariables false
section
variable {S X:ASt} {d l m k c:Nat} {P:AV}
end
section
variable {S:ASt} {P:AV} {ps:List (Int×List Nat)} {pi:Nat} {o:AO}
end
end Go.Proofs.YtiafochainjglaaGreatDoor.drp.lw
end
