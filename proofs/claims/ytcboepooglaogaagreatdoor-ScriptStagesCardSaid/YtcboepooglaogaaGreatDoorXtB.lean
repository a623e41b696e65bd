/-
  OWN WORK, A PART: an abstract machine for the program's text that the kernel can run, and the proof that it is sound: what it answers is what the program answers; contracts of functions by it. No condition.
-/
import Derived.Test.YtcboepooglaogaaGreatDoorXtA
section
open Go Go.Ax Go.Proofs
namespace Go.Proofs.YtcboepooglaogaaGreatDoor.scr
set_option linter.unusedVariables false
open spt
theorem ESqok:Env.Ok Tryz.prog ESq:=envEx_ok (xs:=[]) ⟨⟨Tryz.func17,Tryz.call17⟩,⟨Tryz.func18,Tryz.call18⟩,⟨Tryz.func19,Tryz.call19⟩,⟨Tryz.func20,Tryz.call20⟩,⟨Tryz.func21,Tryz.call21⟩,⟨Tryz.func22,Tryz.call22⟩,⟨Tryz.func23,Tryz.call23⟩,⟨Tryz.func51,Tryz.call51⟩,⟨Tryz.func54,Tryz.call54⟩,⟨Tryz.func56,Tryz.call56⟩,⟨Tryz.func57,Tryz.call57⟩,⟨Tryz.func58,Tryz.call58⟩,⟨Tryz.func59,Tryz.call59⟩,⟨Tryz.func60,Tryz.call60⟩,⟨Tryz.func61,Tryz.call61⟩,⟨Tryz.func62,Tryz.call62⟩,⟨Tryz.func63,Tryz.call63⟩,⟨Tryz.func64,Tryz.call64⟩,⟨Tryz.func65,Tryz.call65⟩,⟨Tryz.func66,Tryz.call66⟩,⟨Tryz.func67,Tryz.call67⟩,⟨Tryz.func110,Tryz.call110⟩,⟨Tryz.func112,Tryz.call112⟩,⟨Tryz.func113,Tryz.call113⟩,⟨Tryz.func114,Tryz.call114⟩,⟨Tryz.func115,Tryz.call115⟩,⟨Tryz.func116,Tryz.call116⟩,⟨Tryz.func117,Tryz.call117⟩,⟨Tryz.func167,Tryz.call167⟩,trivial⟩ trivial (by kernel_rfl)
theorem first_of (p:Nat→Bool):∀m:Nat,∃n,n≤m∧(∀i,i<n→p i=true)∧(n=m∨p n=false)
 | 0=>⟨0,Nat.le_refl _,fun i h=>absurd h (Nat.not_lt_zero i),.inl rfl⟩
 | m+1=>by
  obtain⟨n,h1,h2,h3⟩:=first_of p m
  rcases h3 with rfl | h3
  ·cases h:p n with
   | false=>exact⟨n,by omega,h2,.inr h⟩
   | true =>
    refine⟨n+1,Nat.le_refl _,fun i hi=>?_,.inl rfl⟩
    rcases Nat.lt_or_ge i n with q | q
    ·exact h2 i q
    ·obtain rfl:i=n:=by omega
     exact h
  ·exact⟨n,by omega,h2,.inr h3⟩
def byS (s:List Nat):Prop:=(∀x,x∈s→x<256)∧s.length<4294967296
theorem isD_iff {c:Nat}:isD c=true↔48≤c∧c≤57:=by
 unfold isD
 rw[Bool.and_eq_true,Nat.ble_eq,Nat.ble_eq]
theorem isD_no {c:Nat} (h:isD c=false):c<48∨57<c:=by
 by_cases h1:48≤c∧c≤57
 ·rw[isD_iff.2 h1] at h;cases h
 ·omega
def stD (most:Nat) (s:List Nat):Nat→Nat×Bool
 | 0=>(0,true)
 | i+1=>(((stD most s i).1*10 % 18446744073709551616+(s.getD i 0 - 48)) % 18446744073709551616,
  (stD most s i).2 && (decide (s.getD i 0 - 48≤most) && decide ((stD most s i).1≤(most - (s.getD i 0 - 48)) / 10)))
theorem stD_s (most:Nat) (s:List Nat) (i:Nat):(stD most s (i+1)).2=((stD most s i).2 && (decide (s.getD i 0 - 48≤most) && decide ((stD most s i).1≤(most - (s.getD i 0 - 48)) / 10))):=rfl
theorem take_succ {s:List Nat} {i:Nat} (h:i<s.length):s.take (i+1)=s.take i++[s.getD i 0]:=by
 rw[List.take_add_one,List.getD_eq_getElem?_getD,List.getElem?_eq_getElem h];rfl
theorem stD_ok {most:Nat} {s:List Nat} (hm:most<18446744073709551616):∀i,i≤s.length→((stD most s i).2=true→foldD most (s.take i) 0=some (stD most s i).1)∧((stD most s i).2=false→foldD most (s.take i) 0=none)
 | 0,_=>⟨fun _=>rfl,fun h=>by cases h⟩
 | i+1,hi=>by
  obtain⟨h1,h2⟩:=stD_ok (s:=s) hm i (by omega)
  rw[take_succ (s:=s) (i:=i) (by omega),foldD_app]
  cases hg:(stD most s i).2 with
  | false =>
   rw[h2 hg]
   refine⟨fun h=>?_,fun _=>rfl⟩
   simp[stD,hg] at h
  | true =>
   rw[h1 hg]
   simp only[Option.bind_some,foldD,stD,hg,Bool.true_and]
   by_cases hc:s.getD i 0 - 48≤most∧(stD most s i).1≤(most - (s.getD i 0 - 48)) / 10
   ·rw[if_pos hc]
    have hle:10*(stD most s i).1+(s.getD i 0 - 48)≤most:=by omega
    refine⟨fun _=>?_,fun h=>?_⟩
    ·rw[Nat.mod_eq_of_lt (a:=(stD most s i).1*10) (by omega),Nat.mod_eq_of_lt (by omega)]
     congr 1;omega
    ·rw[decide_eq_true hc.1,decide_eq_true hc.2] at h;cases h
   ·rw[if_neg hc]
    refine⟨fun h=>?_,fun _=>rfl⟩
    rw[Bool.and_eq_true,decide_eq_true_eq,decide_eq_true_eq] at h
    exact absurd h hc
theorem decF_lead {s:List Nat} {most:Nat} (h:1<s.length∧s.head? = some 48):decF s most=(0,4):=by unfold decF;rw[if_pos (.inr h)]
theorem decF_non {s:List Nat} {most i:Nat} (hi:i<s.length) (h:isD (s.getD i 0)=false):decF s most=(0,4):=by
 unfold decF
 split
 ·rfl
 ·have:s.all isD=false:=by
   rw[List.all_eq_false]
   refine⟨s.getD i 0,?_,by rw[h];simp⟩
   rw[List.getD_eq_getElem?_getD,List.getElem?_eq_getElem hi]
   exact List.getElem_mem hi
  rw[if_pos this]
theorem all_of {s:List Nat} (h:∀i,i<s.length→isD (s.getD i 0)=true):s.all isD=true:=List.all_eq_true.2 fun c hc=>by
 obtain⟨i,hi,rfl⟩:=List.mem_iff_getElem.1 hc
 have:=h i hi
 rwa [List.getD_eq_getElem?_getD,List.getElem?_eq_getElem hi] at this
theorem decF_all {s:List Nat} {most:Nat} (h0:s≠[]) (h1:¬(1<s.length∧s.head? = some 48)) (h:∀i,i<s.length→isD (s.getD i 0)=true):decF s most=match foldD most s 0 with
  | some n=>(n,0)
  | none=>(0,5):=by
 unfold decF
 rw[if_neg (by rintro (q | q);exact h0 q;exact h1 q),if_neg (by rw[all_of h];simp)]
 cases foldD most s 0<;>rfl
noncomputable def fDf (m n:Nat) (g:Bool) (k:Nat):AFr:=xFr [(1,.int .u64 (.ofNat m)),(6,.int .u64 (.ofNat n)),(7,.bool g),(24,.ptr (some (k,0)))] 58
theorem sh114:dropC 2 c114=.seq (.seq (seqL (seqL (dropC 2 c114))) (.block 0 (.loop L114))) (dropC 3 c114):=by kernel_rfl
theorem cv21 {S:ASt} {d:Nat} (h:d<1000):aConvert ESq 21 22 (.int .i32 (.ofNat d)) S=some (.int .u64 (.ofNat d),S):=by
 have e:aConvert ESq 21 22 (.int .i32 (.ofNat d)) S=some (.int .u64 (wrapF .u64 (.ofNat d)),S):=by kernel_rfl
 rw[e,wrapU64 (by omega)]
section
variable {S:ASt} {s:List Nat} {m:Nat}
theorem idx0 {c:Nat} {i:Nat} (h:s[i]? = some c):still S (aIndex ESq 9 (.str s) (.int .i64 (.ofNat i)))=some (.int .u8 (.ofNat c),S):=by
 have e:aIndex ESq 9 (.str s) (.int .i64 (.ofNat i))=(match s[i]? with | some c=>some (.int .u8 (.ofNat c)) | none=>none):=by kernel_rfl
 rw[h] at e
 exact still_of e
theorem getD_at {i:Nat} (h:i<s.length):s[i]? = some (s.getD i 0):=by rw[List.getD_eq_getElem?_getD,List.getElem?_eq_getElem h];rfl
theorem dec_rest (hb:byS s) (hm:m<18446744073709551616) (h0:s≠[]) (h1:¬(1<s.length∧s.head? = some 48)) :
  ∃Z:ASt,(Trip Tryz.prog S.next none (dropC 2 c114) (xFr [(0,.str s),(1,.int .u64 (.ofNat m)),(6,.int .u64 (.ofNat 0)),(7,.bool true)] 58) S fun r=>r=(.ret,xFr [(4,.int .u64 (.ofNat (decF s m).1)),(5,.int .i64 (.ofNat (decF s m).2))] 58,Z))∧∀k,k<S.next→Z.h.get k=S.h.get k:=by
 obtain⟨X,eX⟩:∃Y,Y=S.add (.siter s 0):=⟨_,rfl⟩
 have hX:X.h.get S.next=some (.siter s 0):=by rw[eX];exact add_at
 have old:∀i k,k<S.next→(itS X S.next s i).h.get k=S.h.get k:=fun i k hk=>by rw[itS_ne (by omega),eX,add_ne (by omega)]
 have hent:Trip Tryz.prog S.next none (seqL (seqL (dropC 2 c114))) (xFr [(0,.str s),(1,.int .u64 (.ofNat m)),(6,.int .u64 (.ofNat 0)),(7,.bool true)] 58) S fun r=>r=(.normal,fDf m 0 true S.next,X) :=
  pcR ESqok noSum_ok [1,6,7,24] (Eq.mp (vcDe s m S.next S X (· = _)) ⟨by rw[eX];kernel_rfl,rfl⟩)
 obtain⟨n,hn,hdig,hend⟩:=first_of (fun i=>isD (s.getD i 0)) s.length
 have hlt:∀i,i<s.length→s.getD i 0<256:=fun i hi=>hb.1 _ (List.mem_of_getElem? (getD_at hi))
 let T:Nat→AFr×ASt:=fun i=>(fDf m (stD m s i).1 (stD m s i).2 S.next,itS X S.next s i)
 have hround:∀i,i<n→Trip Tryz.prog S.next none L114 (T i).1 (T i).2 fun r=>r=(.normal,(T (i+1)).1,(T (i+1)).2):=fun i hi=>by
  have hd:=isD_iff.1 (hdig i hi)
  have c0:=next_asc (itS_at hX i) (getD_at (s:=s) (show i<s.length by omega)) (by omega)
  show Trip Tryz.prog S.next none L114 (fDf m (stD m s i).1 (stD m s i).2 S.next) (itS X S.next s i) fun r=>r=(.normal,fDf m (stD m s (i+1)).1 (stD m s (i+1)).2 S.next,itS X S.next s (i+1))
  cases hg:(stD m s i).2 with
  | false =>
   have e2:(stD m s (i+1)).2=false:=by simp[stD,hg]
   rw[e2]
   exact pcR ESqok noSum_ok [1,6,7,24] (Eq.mp (vcDi s m (stD m s i).1 i (i+1) (s.getD i 0) (s.getD i 0 - 48) _ (stD m s (i+1)).1 S.next _ _ (· = _))
    ⟨c0,lF (by omega),gF (by omega),opSub32 (by omega) (by omega),cv21 (by omega),opMulU,opAddW,rfl⟩)
  | true =>
   by_cases hc:s.getD i 0 - 48≤m
   ·have e2:(stD m s (i+1)).2=decide ((stD m s i).1≤(m - (s.getD i 0 - 48)) / 10):=by rw[stD_s,hg,decide_eq_true hc];rfl
    rw[e2]
    exact pcR ESqok noSum_ok [1,6,7,24] (Eq.mp (vcDg s m (stD m s i).1 i (i+1) (s.getD i 0) (s.getD i 0 - 48) _ _ _ (stD m s (i+1)).1 _ S.next _ _ (· = _))
     ⟨c0,lF (by omega),gF (by omega),opSub32 (by omega) (by omega),cv21 (by omega),leT hc,opSubU hc hm,opQuoU (by omega) (by decide),opLeq,opMulU,opAddW,rfl⟩)
   ·have e2:(stD m s (i+1)).2=false:=by rw[stD_s,hg,decide_eq_false hc];rfl
    rw[e2]
    exact pcR ESqok noSum_ok [1,6,7,24] (Eq.mp (vcDh s m (stD m s i).1 i (i+1) (s.getD i 0) (s.getD i 0 - 48) _ (stD m s (i+1)).1 S.next _ _ (· = _))
     ⟨c0,lF (by omega),gF (by omega),opSub32 (by omega) (by omega),cv21 (by omega),leF (by omega),opMulU,opAddW,rfl⟩)
 have hsh:=sh114
 by_cases hns:n<s.length
 ·have hnd:isD (s.getD n 0)=false:=by
   rcases hend with e | e
   ·omega
   ·exact e
  have hnd2:=isD_no hnd
  rw[decF_non hns hnd]
  by_cases ha:s.getD n 0<128
  ·have c0:=next_asc (itS_at hX n) (getD_at hns) ha
   refine⟨(itS X S.next s n).put S.next (.siter s (n+1)),?_,?_⟩
   ·rw[hsh]
    refine lpR (T:=T) hent hround ?_
    rcases hnd2 with q | q
    ·exact pcR ESqok noSum_ok [4,5] (Eq.mp (vcDj s m (stD m s n).1 n (n+1) (s.getD n 0) (stD m s n).2 S.next _ ((itS X S.next s n).put S.next (.siter s (n+1))) (· = _)) ⟨c0,lT q,rfl⟩)
    ·exact pcR ESqok noSum_ok [4,5] (Eq.mp (vcDk s m (stD m s n).1 n (n+1) (s.getD n 0) (stD m s n).2 S.next _ ((itS X S.next s n).put S.next (.siter s (n+1))) (· = _)) ⟨c0,lF (by omega),gT q,rfl⟩)
   ·intro k hk
    rw[put_ne (by omega)];exact old n k hk
  ·have c0:=next_wide (itS_at hX n) (getD_at hns) (by omega)
   have hr:=rune_ge (getD_at hns) (by omega) (hlt n hns)
   refine⟨(itS X S.next s n).put S.next (.siter s (n+(runeA s n).2)),?_,?_⟩
   ·rw[hsh]
    refine lpR (T:=T) hent hround ?_
    exact pcR ESqok noSum_ok [4,5] (Eq.mp (vcDk s m (stD m s n).1 n (n+1) (runeA s n).1 (stD m s n).2 S.next _ ((itS X S.next s n).put S.next (.siter s (n+(runeA s n).2))) (· = _)) ⟨c0,lF (by omega),gT (by omega),rfl⟩)
   ·intro k hk
    rw[put_ne (by omega)];exact old n k hk
 ·obtain rfl:n=s.length:=by omega
  obtain⟨g1,g2⟩:=stD_ok (s:=s) hm s.length (Nat.le_refl _)
  rw[List.take_length] at g1 g2
  have hx:Trip Tryz.prog S.next none L114 (T s.length).1 (T s.length).2 fun r=>r=(.exit 0,xFr [(6,.int .u64 (.ofNat (stD m s s.length).1)),(7,.bool (stD m s s.length).2)] 58,itS X S.next s s.length) :=
   pcR ESqok noSum_ok [6,7] (Eq.mp (vcDl s m (stD m s s.length).1 s.length (stD m s s.length).2 S.next _ (· = _)) ⟨next_over (itS_at hX _) (Nat.le_refl _),rfl⟩)
  refine⟨itS X S.next s s.length,?_,old _⟩
  rw[hsh,decF_all h0 h1 hdig]
  refine lpN (T:=T) hent hround hx ?_
  cases hg:(stD m s s.length).2 with
  | true=>rw[g1 hg];exact pcR ESqok noSum_ok [4,5] (Eq.mp (vcDm s _ 0 _ (· = _)) rfl)
  | false=>rw[g2 hg];exact pcR ESqok noSum_ok [4,5] (Eq.mp (vcDn s _ 0 _ (· = _)) rfl)
theorem dec_at' (hb:byS s) (hm:m<18446744073709551616):Call1 Tryz.prog 114 [.str s,.int .u64 (.ofNat m)] S (.tuple [.int .u64 (.ofNat (decF s m).1),.int .i64 (.ofNat (decF s m).2)],S):=by
 have hlv:∀(a b:Nat) (Z:ASt),leaveA ESq Tryz.f114 (xFr [(4,.int .u64 (.ofNat a)),(5,.int .i64 (.ofNat b))] 58) Z=some (.tuple [.int .u64 (.ofNat a),.int .i64 (.ofNat b)],Z):=fun a b Z=>leave_of (rs:=[.tmp 4,.tmp 5]) (by kernel_rfl) rfl (res_tmp (by kernel_rfl) (res_tmp (by kernel_rfl) res_nil)) rfl
 by_cases h0:s=[]
 ·subst h0
  exact Call1.of_tm ESqok noSum_ok (Eq.mp (vcDz m S (fun r=>r=(.tuple [.int .u64 (.ofNat 0),.int .i64 (.ofNat 4)],S))) rfl)
 have hl0:0<s.length:=by
  cases s with
  | nil=>exact absurd rfl h0
  | cons a l=>simp
 have q0:still S (aBin ESq .eql 9 (.tmp 11) (.const (.string (ByteArray.mk #[]))) (.str s) (.str []))=some (.bool false,S):=sF h0
 have ql:aBuiltinM ESq .len [9] [.str s] S=some (.int .i64 (.ofNat s.length),S):=by kernel_rfl
 by_cases h1:1<s.length∧s.head? = some 48
 ·rw[decF_lead h1]
  have hi:s[0]? = some 48:=by rw[←List.head?_eq_getElem?];exact h1.2
  exact finR ESqok (preE ESqok noSum_ok 1 [4,5] (Eq.mp (vcDa s m s.length S (· = _)) ⟨q0,ql,gT h1.1,idx0 hi,eT rfl,rfl⟩)) (hlv 0 4 S) (fun _ _=>rfl) (tup_p (two_p (int_p ..) (int_p ..))) (by simp[refsD,refsDs])
 ·obtain⟨Z,h,hold⟩:=dec_rest hb hm h0 h1
  refine finR ESqok (c:=c114) (Z:=Z) ?_ (hlv _ _ Z) hold (tup_p (two_p (int_p ..) (int_p ..))) (by simp[refsD,refsDs])
  by_cases hl:1<s.length
  ·have hc:s.getD 0 0≠48:=fun e=>h1 ⟨hl,by rw[List.head?_eq_getElem?,getD_at hl0,e]⟩
   exact preN ESqok noSum_ok 2 [0,1,6,7] (Eq.mp (vcDc s m s.length (s.getD 0 0) S (· = _)) ⟨q0,ql,gT hl,idx0 (getD_at hl0),eF hc,rfl⟩) h
  ·exact preN ESqok noSum_ok 2 [0,1,6,7] (Eq.mp (vcDb s m s.length S (· = _)) ⟨q0,ql,gF (by omega),rfl⟩) h
end
end Go.Proofs.YtcboepooglaogaaGreatDoor.scr
end

section
open Go Go.Ax Go.Proofs
namespace Go.Proofs.YtcboepooglaogaaGreatDoor.scr
set_option linter.unusedVariables false
open spt
theorem sh167a:dropC 1 c167=.seq (.seq (seqL (seqL (dropC 1 c167))) (.block 0 (.loop L167a))) (dropC 2 c167):=by kernel_rfl
theorem sh167b:dropC 2 c167=.seq (seqL (dropC 2 c167)) (dropC 3 c167):=by kernel_rfl
theorem sh167c:dropC 3 c167=.seq (.seq (seqL (seqL (dropC 3 c167))) (.block 2 (.loop L167b))) (dropC 4 c167):=by kernel_rfl
theorem cv5 {S:ASt} {d:Nat} (h:d<256):aConvert ESq 5 22 (.int .u8 (.ofNat d)) S=some (.int .u64 (.ofNat d),S):=by
 have e:aConvert ESq 5 22 (.int .u8 (.ofNat d)) S=some (.int .u64 (wrapF .u64 (.ofNat d)),S):=by kernel_rfl
 rw[e,wrapU64 (by omega)]
noncomputable def vD (m:Nat) (s:List Nat) (i:Nat):Nat:=(foldD m (s.take i) 0).getD 0
theorem vD_s {m i:Nat} {s:List Nat} (hi:i<s.length) (h0:(foldD m (s.take i) 0).isSome=true):foldD m (s.take (i+1)) 0=if s.getD i 0 - 48≤m∧vD m s i≤(m - (s.getD i 0 - 48)) / 10 then some (10*vD m s i+(s.getD i 0 - 48)) else none:=by
 rw[take_succ hi,foldD_app]
 unfold vD
 cases e:foldD m (s.take i) 0 with
 | none=>rw[e] at h0;cases h0
 | some n=>rfl
noncomputable def fEa (s:List Nat) (m i:Nat):AFr:=xFr [(0,.str s),(1,.int .u64 (.ofNat m)),(6,.int .i64 (.ofNat i))] 65
noncomputable def fEb (s:List Nat) (m n i:Nat):AFr:=xFr [(0,.str s),(1,.int .u64 (.ofNat m)),(7,.int .u64 (.ofNat n)),(8,.int .i64 (.ofNat i))] 65
section
variable {S:ASt} {s:List Nat} {m:Nat}
theorem decr_sum (hb:byS s) (hm:m<18446744073709551616) (h0:s≠[]) (h1:¬(1<s.length∧s.head? = some 48)) (hdig:∀i,i<s.length→isD (s.getD i 0)=true) :
  Trip Tryz.prog S.next none (dropC 2 c167) (xFr [(0,.str s),(1,.int .u64 (.ofNat m))] 65) S fun r=>r=(.ret,xFr [(4,.int .u64 (.ofNat (decF s m).1)),(5,.int .i64 (.ofNat (decF s m).2))] 65,S):=by
 have ql:aBuiltinM ESq .len [9] [.str s] S=some (.int .i64 (.ofNat s.length),S):=by kernel_rfl
 obtain⟨n,hn,hsm,hend⟩:=first_of (fun i=>(foldD m (s.take (i+1)) 0).isSome) s.length
 have hs0:∀i,i≤n→(foldD m (s.take i) 0).isSome=true:=fun i hi=>by
  cases i with
  | zero=>rfl
  | succ i=>exact hsm i (by omega)
 have hle:∀i,i≤n→vD m s i≤m:=fun i hi=>by
  unfold vD
  cases e:foldD m (s.take i) 0 with
  | none=>exact Nat.zero_le _
  | some k=>exact foldD_le (Nat.zero_le _) e
 rw[sh167b]
 refine Trip.then (pcR ESqok noSum_ok [0,1,7] (Eq.mp (vcEi s m S (· = _)) rfl)) ?_
 rw[sh167c]
 let T:Nat→AFr×ASt:=fun i=>(fEb s m (vD m s i) i,S)
 have hent:Trip Tryz.prog S.next none (seqL (seqL (dropC 3 c167))) (xFr [(0,.str s),(1,.int .u64 (.ofNat m)),(7,.int .u64 (.ofNat 0))] 65) S fun r=>r=(.normal,(T 0).1,(T 0).2) :=
  pcR ESqok noSum_ok [0,1,7,8] (Eq.mp (vcEj s m S (· = _)) rfl)
 have hstep:∀i,i<n→(s.getD i 0 - 48≤m∧vD m s i≤(m - (s.getD i 0 - 48)) / 10)∧vD m s (i+1)=10*vD m s i+(s.getD i 0 - 48):=fun i hi=>by
  have e:=vD_s (m:=m) (show i<s.length by omega) (hs0 i (by omega))
  have h2:=hsm i hi
  rw[e] at h2
  by_cases hc:s.getD i 0 - 48≤m∧vD m s i≤(m - (s.getD i 0 - 48)) / 10
  ·refine⟨hc,?_⟩
   have:vD m s (i+1)=(foldD m (s.take (i+1)) 0).getD 0:=rfl
   rw[this,e,if_pos hc];rfl
  ·rw[if_neg hc] at h2;cases h2
 have hround:∀i,i<n→Trip Tryz.prog S.next none L167b (T i).1 (T i).2 fun r=>r=(.normal,(T (i+1)).1,(T (i+1)).2):=fun i hi=>by
  have hd:=isD_iff.1 (hdig i (by omega))
  obtain⟨⟨c1,c2⟩,c3⟩:=hstep i hi
  have hv:=hle (i+1) (by omega)
  show Trip Tryz.prog S.next none L167b (fEb s m (vD m s i) i) S fun r=>r=(.normal,fEb s m (vD m s (i+1)) (i+1),S)
  have e1:(10*vD m s i % 18446744073709551616+(s.getD i 0 - 48)) % 18446744073709551616=vD m s (i+1):=by omega
  rw[←e1]
  exact pcR ESqok noSum_ok [0,1,7,8] (Eq.mp (vcEk s m (vD m s i) s.length i (s.getD i 0) (s.getD i 0 - 48) _ _ _ _ S (· = _))
   ⟨ql,lT (by omega),idx0 (getD_at (by omega)),opSub8 (by omega) (by omega),cv5 (by omega),gF c1,opSubU c1 hm,opQuoU (by omega) (by decide),gF c2,opMulU,opAddW,opAdd (by have:=hb.2;omega),rfl⟩)
 by_cases hns:n<s.length
 ·have hno:foldD m (s.take (n+1)) 0=none:=by
   rcases hend with e | e
   ·omega
   ·cases e2:foldD m (s.take (n+1)) 0 with
    | none=>rfl
    | some k=>rw[e2] at e;cases e
  have hall:foldD m s 0=none:=by
   have:s=s.take (n+1)++s.drop (n+1):=(List.take_append_drop _ _).symm
   rw[this,foldD_app,hno];rfl
  rw[decF_all h0 h1 hdig,hall]
  have e:=vD_s (m:=m) hns (hs0 n (Nat.le_refl _))
  rw[hno] at e
  have hd:=isD_iff.1 (hdig n hns)
  have hc:¬(s.getD n 0 - 48≤m∧vD m s n≤(m - (s.getD n 0 - 48)) / 10):=fun hc=>by rw[if_pos hc] at e;cases e
  refine lpR (T:=T) hent hround ?_
  by_cases c1:s.getD n 0 - 48≤m
  ·exact pcR ESqok noSum_ok [4,5] (Eq.mp (vcEm s m (vD m s n) s.length n (s.getD n 0) (s.getD n 0 - 48) _ _ S (· = _))
    ⟨ql,lT hns,idx0 (getD_at hns),opSub8 (by omega) (by omega),cv5 (by omega),gF c1,opSubU c1 hm,opQuoU (by omega) (by decide),gT (by omega),rfl⟩)
  ·exact pcR ESqok noSum_ok [4,5] (Eq.mp (vcEl s m (vD m s n) s.length n (s.getD n 0) (s.getD n 0 - 48) S (· = _))
    ⟨ql,lT hns,idx0 (getD_at hns),opSub8 (by omega) (by omega),cv5 (by omega),gT (by omega),rfl⟩)
 ·obtain rfl:n=s.length:=by omega
  have e:foldD m s 0=some (vD m s s.length):=by
   have h2:=hs0 s.length (Nat.le_refl _)
   unfold vD
   rw[List.take_length] at *
   cases e:foldD m s 0 with
   | none=>rw[e] at h2;cases h2
   | some k=>rfl
  rw[decF_all h0 h1 hdig,e]
  refine lpN (T:=T) hent hround (pcR ESqok noSum_ok [7] (Eq.mp (vcEn s m (vD m s s.length) s.length s.length S (· = _)) ⟨ql,lF (Nat.le_refl _),rfl⟩)) ?_
  exact pcR ESqok noSum_ok [4,5] (Eq.mp (vcEo _ S (· = _)) rfl)
theorem decr_rest (hb:byS s) (hm:m<18446744073709551616) (h0:s≠[]) (h1:¬(1<s.length∧s.head? = some 48)) :
  Trip Tryz.prog S.next none (dropC 1 c167) (xFr [(0,.str s),(1,.int .u64 (.ofNat m))] 65) S fun r=>r=(.ret,xFr [(4,.int .u64 (.ofNat (decF s m).1)),(5,.int .i64 (.ofNat (decF s m).2))] 65,S):=by
 have ql:aBuiltinM ESq .len [9] [.str s] S=some (.int .i64 (.ofNat s.length),S):=by kernel_rfl
 obtain⟨n,hn,hdig,hend⟩:=first_of (fun i=>isD (s.getD i 0)) s.length
 let T:Nat→AFr×ASt:=fun i=>(fEa s m i,S)
 have hent:Trip Tryz.prog S.next none (seqL (seqL (dropC 1 c167))) (xFr [(0,.str s),(1,.int .u64 (.ofNat m))] 65) S fun r=>r=(.normal,(T 0).1,(T 0).2) :=
  pcR ESqok noSum_ok [0,1,6] (Eq.mp (vcEd s m S (· = _)) rfl)
 have hround:∀i,i<n→Trip Tryz.prog S.next none L167a (T i).1 (T i).2 fun r=>r=(.normal,(T (i+1)).1,(T (i+1)).2):=fun i hi=>by
  have hd:=isD_iff.1 (hdig i hi)
  exact pcR ESqok noSum_ok [0,1,6] (Eq.mp (vcEe s m s.length i (s.getD i 0) S (· = _)) ⟨ql,lT (by omega),idx0 (getD_at (by omega)),lF (by omega),idx0 (getD_at (by omega)),gF (by omega),opAdd (by have:=hb.2;omega),rfl⟩)
 rw[sh167a]
 by_cases hns:n<s.length
 ·have hnd:isD (s.getD n 0)=false:=by
   rcases hend with e | e
   ·omega
   ·exact e
  rw[decF_non hns hnd]
  refine lpR (T:=T) hent hround ?_
  rcases isD_no hnd with q | q
  ·exact pcR ESqok noSum_ok [4,5] (Eq.mp (vcEf s m s.length n (s.getD n 0) S (· = _)) ⟨ql,lT hns,idx0 (getD_at hns),lT q,rfl⟩)
  ·exact pcR ESqok noSum_ok [4,5] (Eq.mp (vcEg s m s.length n (s.getD n 0) S (· = _)) ⟨ql,lT hns,idx0 (getD_at hns),lF (by omega),idx0 (getD_at hns),gT q,rfl⟩)
 ·obtain rfl:n=s.length:=by omega
  exact lpN (T:=T) hent hround (pcR ESqok noSum_ok [0,1] (Eq.mp (vcEh s m s.length s.length S (· = _)) ⟨ql,lF (Nat.le_refl _),rfl⟩)) (decr_sum hb hm h0 h1 hdig)
theorem decr_at (hb:byS s) (hm:m<18446744073709551616):Call1 Tryz.prog 167 [.str s,.int .u64 (.ofNat m)] S (.tuple [.int .u64 (.ofNat (decF s m).1),.int .i64 (.ofNat (decF s m).2)],S):=by
 have hlv:∀(a b:Nat) (Z:ASt),leaveA ESq Tryz.f167 (xFr [(4,.int .u64 (.ofNat a)),(5,.int .i64 (.ofNat b))] 65) Z=some (.tuple [.int .u64 (.ofNat a),.int .i64 (.ofNat b)],Z):=fun a b Z=>leave_of (rs:=[.tmp 4,.tmp 5]) (by kernel_rfl) rfl (res_tmp (by kernel_rfl) (res_tmp (by kernel_rfl) res_nil)) rfl
 by_cases h0:s=[]
 ·subst h0
  exact Call1.of_tm ESqok noSum_ok (Eq.mp (vcEz m S (fun r=>r=(.tuple [.int .u64 (.ofNat 0),.int .i64 (.ofNat 4)],S))) rfl)
 have hl0:0<s.length:=by
  cases s with
  | nil=>exact absurd rfl h0
  | cons a l=>simp
 have q0:still S (aBin ESq .eql 9 (.tmp 10) (.const (.string (ByteArray.mk #[]))) (.str s) (.str []))=some (.bool false,S):=sF h0
 have ql:aBuiltinM ESq .len [9] [.str s] S=some (.int .i64 (.ofNat s.length),S):=by kernel_rfl
 by_cases h1:1<s.length∧s.head? = some 48
 ·rw[decF_lead h1]
  have hi:s[0]? = some 48:=by rw[←List.head?_eq_getElem?];exact h1.2
  exact finR ESqok (preE ESqok noSum_ok 1 [4,5] (Eq.mp (vcEa s m s.length S (· = _)) ⟨q0,ql,gT h1.1,idx0 hi,eT rfl,rfl⟩)) (hlv 0 4 S) (fun _ _=>rfl) (tup_p (two_p (int_p ..) (int_p ..))) (by simp[refsD,refsDs])
 ·refine finR ESqok (c:=c167) (Z:=S) ?_ (hlv _ _ S) (fun _ _=>rfl) (tup_p (two_p (int_p ..) (int_p ..))) (by simp[refsD,refsDs])
  by_cases hl:1<s.length
  ·have hc:s.getD 0 0≠48:=fun e=>h1 ⟨hl,by rw[List.head?_eq_getElem?,getD_at hl0,e]⟩
   exact preN ESqok noSum_ok 1 [0,1] (Eq.mp (vcEc s m s.length (s.getD 0 0) S (· = _)) ⟨q0,ql,gT hl,idx0 (getD_at hl0),eF hc,rfl⟩) (decr_rest hb hm h0 h1)
  ·exact preN ESqok noSum_ok 1 [0,1] (Eq.mp (vcEb s m s.length S (· = _)) ⟨q0,ql,gF (by omega),rfl⟩) (decr_rest hb hm h0 h1)
theorem decF_two (s:List Nat) (m:Nat):(decF s m).2=0∨(decF s m).1=0:=by
 unfold decF
 split
 ·exact .inr rfl
 ·split
  ·exact .inr rfl
  ·split
   ·exact .inl rfl
   ·exact .inr rfl
theorem num_at (hb:byS s) (hm:m<18446744073709551616):Call1 Tryz.prog 115 [.str s,.int .u64 (.ofNat m)] S (.int .u64 (.ofNat (numV m s)),S):=by
 have hq:CallsOK Tryz.prog (onlyC [167] (memC 167 [.str s,.int .u64 (.ofNat m)] (.tuple [.int .u64 (.ofNat (decF s m).1),.int .i64 (.ofNat (decF s m).2)]))):=onlyC_ok (memC_ok fun X=>decr_at hb hm)
 by_cases h:(decF s m).2=0
 ·exact Call1.of_tm ESqok hq (Eq.mp (vcGa _ m (numV m s) s S (· = _)) ⟨ca (by rw[memC_at,h];rfl),nF rfl,rfl⟩)
 ·have e0:numV m s=0:=(decF_two s m).resolve_left h
  rw[e0]
  exact Call1.of_tm ESqok hq (Eq.mp (vcGb _ m (decF s m).1 (decF s m).2 s S (· = _)) ⟨ca (memC_at ..),nT h,rfl⟩)
theorem small_of (hb:byS s):Call1 Tryz.prog 61 [.str s,.int .i64 (.ofNat 1000000)] S (.int .i64 (.ofNat (numV 1000000 s)),S):=by
 have hle:=numV_le 1000000 s
 refine Call1.of_tm ESqok (onlyC_ok (memC_ok (k:=115) (ar:=[.str s,.int .u64 (.ofNat 1000000)]) (v:=.int .u64 (.ofNat (numV 1000000 s))) fun X=>num_at hb (by decide))) (Eq.mp (vcGc _ (numV 1000000 s) s S (· = _)) ⟨by kernel_rfl,ca (memC_at ..),?_,rfl⟩)
 have e:aConvert ESq 22 3 (.int .u64 (.ofNat (numV 1000000 s))) S=some (.int .i64 (wrapF .i64 (.ofNat (numV 1000000 s))),S):=by kernel_rfl
 rw[e,wrap_nat (by omega)]
end
end Go.Proofs.YtcboepooglaogaaGreatDoor.scr
end

section
open Go Go.Ax Go.Proofs
namespace Go.Proofs.YtcboepooglaogaaGreatDoor.scr
set_option linter.unusedVariables false
open spt
structure WAt (S S':ASt) (w:Nat) (a:AO):Prop where
 at_:S'.h.get w=some a
 ne:∀k,k≠w→S'.h.get k=S.h.get k
 next:S'.next=S.next
theorem WAt.put {S:ASt} {w:Nat} {a:AO}:WAt S (S.put w a) w a:=⟨put_at,fun k h=>put_ne h,rfl⟩
theorem WAt.trans {S S1 S2:ASt} {w:Nat} {a b:AO} (h:WAt S S1 w a) (h2:WAt S1 S2 w b):WAt S S2 w b:=⟨h2.at_,fun k hk=>(h2.ne k hk).trans (h.ne k hk),h2.next.trans h.next⟩
theorem WAt.tidy {S S':ASt} {w:Nat} {a:AO} (h:WAt S S' w a) (ht:Tidy S) (hw:w<S.next):Tidy S':=fun k hk=>by
 rw[h.next] at hk
 rw[h.ne k (by omega)];exact ht k hk
def wO (r n o:Nat) (b:Bool):AO:=.cells [.slice (some (r,Nat.min o (n - 1))) (n - o) (.known (n - o)),.bool b] true
section
variable {S:ASt} {w r o m:Nat} {b rw':Bool} {xs:List (List Nat)}
theorem w0 {n:Nat} (hw:S.h.get w=some (wO r n o b)):aLoad ESq 86 (.ptr (some (w,0))) S=some (.slice (some (r,Nat.min o (n - 1))) (n - o) (.known (n - o)),S):=load_at (by kernel_rfl) hw rfl
theorem w1 {n:Nat} (hw:S.h.get w=some (wO r n o b)):aLoad ESq 4 (.ptr (some (w,1))) S=some (.bool b,S):=load_at (by kernel_rfl) hw rfl
theorem ws1 {n:Nat} (hw:S.h.get w=some (wO r n o b)) (c:Bool):Option.map (fun s=>(undefA,s)) (aStore ESq 4 (.ptr (some (w,1))) (.bool c) S)=some (.tuple [],S.put w (wO r n o c)):=okS_of (store_at (j:=1) (by kernel_rfl) hw (by show 1<2;decide) rfl)
theorem word_at (hw:S.h.get w=some (wO r xs.length o b)) (hr:S.h.get r=some (.cells (xs.map AV.str) rw')) (ho:o≤xs.length) :
  ∃S',Call1 Tryz.prog 113 [.ptr (some (w,0))] S (.str (xs.getD o []),S')∧WAt S S' w (wO r xs.length (min (o+1) xs.length) (b || decide (xs.length≤o))):=by
 by_cases h:xs.length≤o
 ·obtain rfl:o=xs.length:=by omega
  have e:xs.getD xs.length []=[]:=by simp
  rw[e,decide_eq_true (Nat.le_refl _),Bool.or_true,Nat.min_eq_right (by omega)]
  have l0:=w0 hw
  rw[Nat.sub_self] at l0
  exact⟨_,Call1.of_tm ESqok noSum_ok (Eq.mp (vcWa w r _ S (S.put w (wO r xs.length xs.length true)) (· = _)) ⟨l0,ws1 hw true,rfl⟩),WAt.put⟩
 ·obtain⟨n,hn⟩:∃n,xs.length - o=n+1:=⟨xs.length - o - 1,by omega⟩
  rw[decide_eq_false h,Bool.or_false,Nat.min_eq_left (by omega)]
  have l0:=w0 hw
  rw[hn] at l0
  have hx:xs[o]? = some (xs.getD o []):=by rw[List.getD_eq_getElem?_getD,List.getElem?_eq_getElem (by omega)];rfl
  have l1:aLoad ESq 9 (.ptr (some (r,o+0))) S=some (.str (xs.getD o []),S):=load_at (by kernel_rfl) hr (by rw[Nat.add_zero,List.getElem?_map,hx];rfl)
  have em:Nat.min o (xs.length - 1)=o:=Nat.min_eq_left (by omega)
  rw[em] at l0
  have hw2:S.h.get w=some (.cells [.slice (some (r,o)) (n+1) (.known (n+1)),.bool b] true):=by rw[hw];unfold wO;rw[hn,em]
  have e3:wO r xs.length (o+1) b=.cells [.slice (some (r,Nat.min (o+1) (xs.length - 1))) n (.known n),.bool b] true:=by unfold wO;rw[show xs.length - (o+1)=n by omega]
  rw[e3]
  have hs:still S (aSlice ESq 86 (.slice (some (r,o)) (n+1) (.known (n+1))) (some (.int .i64 (.ofNat 1))) none none S)=some (.slice (some (r,Nat.min (o+1) (xs.length - 1))) n (.known n),S):=by
   cases n with
   | zero=>rw[show Nat.min (o+1) (xs.length - 1)=o by (show min (o+1) (xs.length - 1)=o);omega];kernel_rfl
   | succ n=>rw[show Nat.min (o+1) (xs.length - 1)=o+1 by (show min (o+1) (xs.length - 1)=o+1);omega];kernel_rfl
  exact⟨_,Call1.of_tm ESqok noSum_ok (Eq.mp (vcWb w r o _ n (xs.getD o []) S _ (· = _)) ⟨l0,l0,still_idx (z:=1) (by kernel_rfl) (by omega),l1,l0,hs,okS_of (store_at (j:=0) (by kernel_rfl) hw2 (by show 0<2;decide) rfl),rfl⟩),WAt.put⟩
theorem byS_at {xs:List (List Nat)} (h:∀x,x∈xs→byS x) (o:Nat):byS (xs.getD o []):=by
 rw[List.getD_eq_getElem?_getD]
 cases e:xs[o]? with
 | none=>exact⟨fun x hx=>(by cases hx),(by decide)⟩
 | some x=>exact h x (List.mem_of_getElem? e)
theorem number_at (ht:Tidy S) (hw:S.h.get w=some (wO r xs.length o b)) (hr:S.h.get r=some (.cells (xs.map AV.str) rw')) (hwr:r≠w) (ho:o≤xs.length) (hb:∀x,x∈xs→byS x) (hm:m<18446744073709551616) :
  ∃S',Call1 Tryz.prog 57 [.ptr (some (w,0)),.int .u64 (.ofNat m)] S (.int .u64 (.ofNat (numV m (xs.getD o []))),S')∧WAt S S' w (wO r xs.length (min (o+1) xs.length) (b || (decide (xs.length≤o) || numB m (xs.getD o [])))):=by
 obtain⟨S1,h1,h2⟩:=word_at hw hr ho
 have hq:=onlyC_ok (fs:=[113,114]) (orC_ok (oneC_ok h1) (memC_ok (k:=114) (ar:=[.str (xs.getD o []),.int .u64 (.ofNat m)]) (v:=.tuple [.int .u64 (.ofNat (decF (xs.getD o []) m).1),.int .i64 (.ofNat (decF (xs.getD o []) m).2)]) fun X=>dec_at' (byS_at hb o) hm))
 have hd:∀E:Bool,E=numB m (xs.getD o [])→still S1 (aBin ESq .neq 32 (.tmp 20) (.const (.int .i64 0)) (.int .i64 (.ofNat (decF (xs.getD o []) m).2)) (.int .i64 (.ofNat 0)))=some (.bool E,S1):=fun E hE=>by rw[opNeq,hE];rfl
 cases hbb:b || decide (xs.length≤o) with
 | true =>
  rw[hbb] at h2
  have e:(b || (decide (xs.length≤o) || numB m (xs.getD o [])))=true:=by rw[←Bool.or_assoc,hbb];rfl
  rw[e]
  exact⟨_,Call1.of_tm ESqok hq (Eq.mp (vcNa _ w m _ _ (xs.getD o []) S S1 _ (· = _)) ⟨ca oL,ca (oR (memC_at ..)),w1 h2.at_,ws1 h2.at_ true,rfl⟩),h2.trans WAt.put⟩
 | false =>
  rw[hbb] at h2
  have e:(b || (decide (xs.length≤o) || numB m (xs.getD o [])))=numB m (xs.getD o []):=by rw[←Bool.or_assoc,hbb];rfl
  rw[e]
  exact⟨_,Call1.of_tm ESqok hq (Eq.mp (vcNb _ w m _ _ (numB m (xs.getD o [])) (xs.getD o []) S S1 _ (· = _)) ⟨ca oL,ca (oR (memC_at ..)),w1 h2.at_,hd _ rfl,ws1 h2.at_ _,rfl⟩),h2.trans WAt.put⟩
end
theorem first_word (ks:List (List Nat)) (s:List Nat):∃n,n≤ks.length∧(∀i,i<n→ks.getD i []≠s)∧((n<ks.length∧ks.getD n []=s∧plF ks s=n+1)∨(n=ks.length∧plF ks s=0)):=by
 obtain⟨n,h1,h2,h3⟩:=first_of (fun i=>!decide (ks.getD i []=s)) ks.length
 have h2':∀i,i<n→ks.getD i []≠s:=fun i hi e=>by have:=h2 i hi;rw[decide_eq_true e] at this;cases this
 have hg:∀i,i<ks.length→ks[i]? = some (ks.getD i []):=fun i hi=>by rw[List.getD_eq_getElem?_getD,List.getElem?_eq_getElem hi];rfl
 refine⟨n,h1,h2',?_⟩
 by_cases hn:n<ks.length
 ·left
  have he:ks.getD n []=s:=by
   rcases h3 with e | e
   ·omega
   ·by_cases q:ks.getD n []=s
    ·exact q
    ·rw[decide_eq_false q] at e;cases e
  exact⟨hn,he,plF_at (by rw[hg n hn,he]) fun i hi e=>h2' i hi (by rw[hg i (by omega)] at e;exact Option.some.inj e)⟩
 ·right
  obtain rfl:n=ks.length:=by omega
  refine⟨rfl,plF_no fun hm=>?_⟩
  obtain⟨i,hi,rfl⟩:=List.mem_iff_getElem.1 hm
  exact h2' i hi (by rw[List.getD_eq_getElem?_getD,List.getElem?_eq_getElem hi];rfl)
theorem sh112:c112=.seq (preC 0 c112) (.seq (.seq (seqL (seqL (dropC 0 c112))) (.block 0 (.loop L112))) (dropC 1 c112)):=by kernel_rfl
theorem sh62:c62=.seq (preC 0 c62) (.seq (.seq (seqL (seqL (dropC 0 c62))) (.block 0 (.loop L62))) (dropC 1 c62)):=by kernel_rfl
noncomputable def fIx (r n:Nat) (s:List Nat) (i:Nat):AFr:=xFr [(0,.slice (some (r,0)) n (.known n)),(1,.str s),(7,.int .i64 (.ofNat n)),(8,.int .i64 (.ofNat i))] 19
noncomputable def fPl (r n:Nat) (s:List Nat) (i:Nat):AFr:=xFr [(0,.slice (some (r,0)) n (.known n)),(1,.str s),(5,.int .i64 (.ofNat i))] 20
section
variable {S:ASt} {r:Nat} {ks:List (List Nat)} {s:List Nat} {rw':Bool}
theorem ldK (hr:S.h.get r=some (.cells (ks.map AV.str) rw')) {i:Nat} (hi:i<ks.length):aLoad ESq 9 (.ptr (some (r,i*1))) S=some (.str (ks.getD i []),S):=load_at (by kernel_rfl) hr (by rw[Nat.mul_one,List.getElem?_map,List.getD_eq_getElem?_getD,List.getElem?_eq_getElem hi];rfl)
theorem ixK {n i:Nat} (hi:i<n):still S (aIndexAddr ESq 86 (.slice (some (r,0)) n (.known n)) (.int .i64 (.ofNat i)))=some (.ptr (some (r,i*1)),S):=by
 have:=still_idx (E:=ESq) (t:=86) (z:=1) (i:=r) (o:=0) (n:=n) (k:=i) (c:=.known n) (kd:=.i64) (st:=S) (by kernel_rfl) hi
 rw[Nat.zero_add] at this
 exact this
theorem index_at (hr:S.h.get r=some (.cells (ks.map AV.str) rw')) (hl:ks.length<1000):Call1 Tryz.prog 112 [.slice (some (r,0)) ks.length (.known ks.length),.str s] S (.int .i64 ((plF ks s:Int) - 1),S):=by
 obtain⟨n,h1,h2,h3⟩:=first_word ks s
 let T:Nat→AFr×ASt:=fun i=>(fIx r ks.length s i,S)
 have hpre:Trip Tryz.prog S.next none (preC 0 c112) {m:=putArgs [.slice (some (r,0)) ks.length (.known ks.length),.str s] 0 .e,n:=19,defs:=[]} S fun z=>z=(.normal,xFr [(0,.slice (some (r,0)) ks.length (.known ks.length)),(1,.str s)] 19,S) :=
  pcR ESqok noSum_ok [0,1] (Eq.mp (vcIa r ks.length s S (· = _)) rfl)
 have hent:Trip Tryz.prog S.next none (seqL (seqL (dropC 0 c112))) (xFr [(0,.slice (some (r,0)) ks.length (.known ks.length)),(1,.str s)] 19) S fun z=>z=(.normal,(T 0).1,(T 0).2) :=
  pcR ESqok noSum_ok [0,1,7,8] (Eq.mp (vcIg r ks.length s S (· = _)) rfl)
 have hround:∀i,i<n→Trip Tryz.prog S.next none L112 (T i).1 (T i).2 fun z=>z=(.normal,(T (i+1)).1,(T (i+1)).2):=fun i hi =>
  pcR ESqok noSum_ok [0,1,7,8] (Eq.mp (vcIb r ks.length i s (ks.getD i []) S (· = _)) ⟨lT (by omega),ixK (by omega),ldK hr (by omega),sF (fun e=>h2 i hi e.symm),opAdd (by omega),rfl⟩)
 have hlv:∀z:Int,leaveA ESq Tryz.f112 (xFr [(4,.int .i64 z)] 19) S=some (.int .i64 z,S):=fun z=>leave_of (rs:=[.tmp 4]) (by kernel_rfl) rfl (res_tmp (by kernel_rfl) res_nil) rfl
 rcases h3 with⟨q1,q2,q3⟩ | ⟨rfl,q3⟩
 ·rw[q3]
  have e:(((n+1:Nat):Int) - 1)=.ofNat n:=by simp only[Int.ofNat_eq_natCast];omega
  rw[e]
  refine finR ESqok (c:=c112) (Z:=S) ?_ (hlv _) (fun _ _=>rfl) (int_p ..) (by simp[refsD])
  rw[sh112]
  exact Trip.then hpre (lpR (T:=T) hent hround (pcR ESqok noSum_ok [4] (Eq.mp (vcIc r ks.length n s (ks.getD n []) S (· = _)) ⟨lT q1,ixK q1,ldK hr q1,sT q2.symm,rfl⟩)))
 ·rw[q3]
  have e:(((0:Nat):Int) - 1)=.negSucc 0:=rfl
  rw[e]
  refine finR ESqok (c:=c112) (Z:=S) ?_ (hlv _) (fun _ _=>rfl) (int_p ..) (by simp[refsD])
  rw[sh112]
  exact Trip.then hpre (lpN (T:=T) hent hround (pcR ESqok noSum_ok [] (Eq.mp (vcId r ks.length ks.length s S (· = _)) ⟨lF (Nat.le_refl _),rfl⟩)) (pcR ESqok noSum_ok [4] (Eq.mp (vcIe S (· = _)) rfl)))
theorem place_at (hr:S.h.get r=some (.cells (ks.map AV.str) rw')) (hl:ks.length<1000):Call1 Tryz.prog 62 [.slice (some (r,0)) ks.length (.known ks.length),.str s] S (.int .i64 (.ofNat (plF ks s)),S):=by
 obtain⟨n,h1,h2,h3⟩:=first_word ks s
 let T:Nat→AFr×ASt:=fun i=>(fPl r ks.length s i,S)
 have hpre:Trip Tryz.prog S.next none (preC 0 c62) {m:=putArgs [.slice (some (r,0)) ks.length (.known ks.length),.str s] 0 .e,n:=20,defs:=[]} S fun z=>z=(.normal,xFr [(0,.slice (some (r,0)) ks.length (.known ks.length)),(1,.str s)] 20,S) :=
  pcR ESqok noSum_ok [0,1] (Eq.mp (vcPa r ks.length s S (· = _)) rfl)
 have hent:Trip Tryz.prog S.next none (seqL (seqL (dropC 0 c62))) (xFr [(0,.slice (some (r,0)) ks.length (.known ks.length)),(1,.str s)] 20) S fun z=>z=(.normal,(T 0).1,(T 0).2) :=
  pcR ESqok noSum_ok [0,1,5] (Eq.mp (vcPg r ks.length s S (· = _)) rfl)
 have hround:∀i,i<n→Trip Tryz.prog S.next none L62 (T i).1 (T i).2 fun z=>z=(.normal,(T (i+1)).1,(T (i+1)).2):=fun i hi =>
  pcR ESqok noSum_ok [0,1,5] (Eq.mp (vcPb r ks.length i s (ks.getD i []) S (· = _)) ⟨lT (by omega),ixK (by omega),ldK hr (by omega),sF (h2 i hi),opAdd (by omega),rfl⟩)
 have hlv:∀z:Int,leaveA ESq Tryz.f62 (xFr [(4,.int .i64 z)] 20) S=some (.int .i64 z,S):=fun z=>leave_of (rs:=[.tmp 4]) (by kernel_rfl) rfl (res_tmp (by kernel_rfl) res_nil) rfl
 rcases h3 with⟨q1,q2,q3⟩ | ⟨rfl,q3⟩
 ·rw[q3]
  refine finR ESqok (c:=c62) (Z:=S) ?_ (hlv _) (fun _ _=>rfl) (int_p ..) (by simp[refsD])
  rw[sh62]
  exact Trip.then hpre (lpR (T:=T) hent hround (pcR ESqok noSum_ok [4] (Eq.mp (vcPc r ks.length n s (ks.getD n []) S (· = _)) ⟨lT q1,ixK q1,ldK hr q1,sT q2,opAdd (by omega),rfl⟩)))
 ·rw[q3]
  refine finR ESqok (c:=c62) (Z:=S) ?_ (hlv _) (fun _ _=>rfl) (int_p ..) (by simp[refsD])
  rw[sh62]
  exact Trip.then hpre (lpN (T:=T) hent hround (pcR ESqok noSum_ok [] (Eq.mp (vcPd r ks.length ks.length s S (· = _)) ⟨lF (Nat.le_refl _),rfl⟩)) (pcR ESqok noSum_ok [4] (Eq.mp (vcPe S (· = _)) rfl)))
end
section
variable {S:ASt} {w r o k:Nat} {b rw' rk:Bool} {xs ks:List (List Nat)}
theorem one_at (hw:S.h.get w=some (wO r xs.length o b)) (hr:S.h.get r=some (.cells (xs.map AV.str) rw')) (ho:o≤xs.length) (hk:S.h.get k=some (.cells (ks.map AV.str) rk)) (hkw:k≠w) (hl:ks.length<1000) :
  ∃S',Call1 Tryz.prog 56 [.ptr (some (w,0)),.slice (some (k,0)) ks.length (.known ks.length)] S (.int .i64 (.ofNat (plF ks (xs.getD o []))),S')∧WAt S S' w (wO r xs.length (min (o+1) xs.length) (b || (decide (xs.length≤o) || decide (plF ks (xs.getD o [])=0)))):=by
 obtain⟨S1,h1,h2⟩:=word_at hw hr ho
 have h3:Call1 Tryz.prog 112 [.slice (some (k,0)) ks.length (.known ks.length),.str (xs.getD o [])] S1 (.int .i64 ((plF ks (xs.getD o []):Int) - 1),S1):=index_at (by rw[h2.ne k hkw];exact hk) hl
 have hq:=onlyC_ok (fs:=[113,112]) (orC_ok (oneC_ok h1) (oneC_ok h3))
 have hle:=plF_le ks (xs.getD o [])
 have ha:∀Y:ASt,still Y (aBin ESq .add 3 (.tmp 21) (.const (.int .i64 1)) (.int .i64 ((plF ks (xs.getD o []):Int) - 1)) (.int .i64 (.ofNat 1)))=some (.int .i64 (.ofNat (plF ks (xs.getD o []))),Y):=fun Y=>by
  have e:aBin ESq .add 3 (.tmp 21) (.const (.int .i64 1)) (.int .i64 ((plF ks (xs.getD o []):Int) - 1)) (.int .i64 (.ofNat 1))=some (.int .i64 (wrapF .i64 (((plF ks (xs.getD o []):Int) - 1)+.ofNat 1))):=rfl
  rw[show ((plF ks (xs.getD o []):Int) - 1)+.ofNat 1=.ofNat (plF ks (xs.getD o [])) by simp only[Int.ofNat_eq_natCast];omega,wrap_nat (by omega)] at e
  exact still_of e
 have hd:still S1 (aBin ESq .lss 3 (.tmp 16) (.const (.int .i64 0)) (.int .i64 ((plF ks (xs.getD o []):Int) - 1)) (.int .i64 (.ofNat 0)))=some (.bool (decide (plF ks (xs.getD o [])=0)),S1):=by
  rw[opLssI]
  by_cases h:plF ks (xs.getD o [])=0
  ·rw[decide_eq_true h,decide_eq_true (by simp only[Int.ofNat_eq_natCast];omega)]
  ·rw[decide_eq_false h,decide_eq_false (by simp only[Int.ofNat_eq_natCast];omega)]
 cases hbb:b || decide (xs.length≤o) with
 | true =>
  rw[hbb] at h2
  have e:(b || (decide (xs.length≤o) || decide (plF ks (xs.getD o [])=0)))=true:=by rw[←Bool.or_assoc,hbb];rfl
  rw[e]
  exact⟨_,Call1.of_tm ESqok hq (Eq.mp (vcOa _ w _ _ (xs.getD o []) _ S S1 _ (· = _)) ⟨ca oL,ca (oR oneC_at),w1 h2.at_,ws1 h2.at_ true,ha _,rfl⟩),h2.trans WAt.put⟩
 | false =>
  rw[hbb] at h2
  have e:(b || (decide (xs.length≤o) || decide (plF ks (xs.getD o [])=0)))=decide (plF ks (xs.getD o [])=0):=by rw[←Bool.or_assoc,hbb];rfl
  rw[e]
  exact⟨_,Call1.of_tm ESqok hq (Eq.mp (vcOb _ w _ _ (decide (plF ks (xs.getD o [])=0)) (xs.getD o []) _ S S1 _ (· = _)) ⟨ca oL,ca (oR oneC_at),w1 h2.at_,hd,ws1 h2.at_ _,ha _,rfl⟩),h2.trans WAt.put⟩
end
end Go.Proofs.YtcboepooglaogaaGreatDoor.scr
end

section
open Go Go.Ax Go.Proofs
namespace Go.Proofs.YtcboepooglaogaaGreatDoor.scr
set_option linter.unusedVariables false
open spt
theorem ap86:appT ESq 86 86=some (1,16):=by kernel_rfl
theorem ap49:appT ESq 49 49=some (1,8):=by kernel_rfl
theorem join_snoc {sep w:List Nat}:∀{ws:List (List Nat)},ws≠[]→joinL sep (ws++[w])=joinL sep ws++sep++w
 | [],h=>absurd rfl h
 | a::ws,_=>by
  have ht:∀l:List (List Nat),jnTail sep (l++[w])=jnTail sep l++(sep++w):=fun l=>by
   induction l with
   | nil=>simp[jnTail]
   | cons x l ih=>simp only[List.cons_append,jnTail,ih,List.append_assoc]
  simp only[List.cons_append,joinL,ht,List.append_assoc]
theorem join_len {sep:List Nat} {m:Nat}:∀{ws:List (List Nat)},(∀w,w∈ws→w.length≤m)→(joinL sep ws).length≤(m+sep.length)*ws.length
 | [],_=>Nat.zero_le _
 | a::ws,h=>by
  have ht:∀l:List (List Nat),(∀w,w∈l→w.length≤m)→(jnTail sep l).length≤(m+sep.length)*l.length:=fun l=>by
   induction l with
   | nil=>intro _;exact Nat.zero_le _
   | cons x l ih =>
    intro hl
    have h1:=ih fun w hw=>hl w (List.mem_cons_of_mem _ hw)
    have h2:=hl x List.mem_cons_self
    simp only[jnTail,List.length_append,List.length_cons,Nat.mul_add,Nat.mul_one] at h1 ⊢
    omega
  have h1:=ht ws fun w hw=>h w (List.mem_cons_of_mem _ hw)
  have h2:=h a List.mem_cons_self
  simp only[joinL,List.length_append,List.length_cons,Nat.mul_add,Nat.mul_one] at h1 ⊢
  omega
theorem decs_len {L:List Nat} (h:∀x,x∈L→x<18446744073709551616):∀w,w∈L.map decL→w.length≤20:=fun w hw=>by
 obtain⟨x,hx,rfl⟩:=List.mem_map.1 hw
 exact decL_le (h x hx)
theorem join_row {X:ASt} {A:AV} {ws:List (List Nat)} {sep:List Nat} (h:SlR AV.str X A ws) (hne:ws≠[]) (hl:(joinL sep ws).length<140737488355328) (hn:ws.length<140737488355328):Call1 Tryz.prog 107 [A,.str sep] X (.str (joinL sep ws),X):=by
 cases h with
 | nil=>exact absurd rfl hne
 | empty=>exact absurd rfl hne
 | zero i o c=>exact absurd rfl hne
 | row i o c cs rw L h1 h2 h3=>exact join_at h1 h3 hl hn
theorem sh110:dropC 2 c110=.seq (.seq (seqL (seqL (dropC 2 c110))) (.block 0 (.loop L110))) (dropC 3 c110):=by kernel_rfl
theorem sh67:dropC 2 c67=.seq (.seq (seqL (seqL (dropC 2 c67))) (.block 0 (.loop L67))) (dropC 3 c67):=by kernel_rfl
noncomputable def fJx (A D:AV) (n i:Nat):AFr:=xFr [(3,A),(9,D),(10,.int .i64 (.ofNat n)),(11,.int .i64 (.ofNat i))] 23
noncomputable def fKx (D:AV) (a:List Nat) (i:Nat):AFr:=xFr [(0,D),(3,.str a),(4,.int .i64 (.ofNat i))] 26
theorem str_d {D:Nat→Prop} (e:List Nat):refsD D (AV.str e):=trivial
theorem gN_d {D:Nat→Prop} (e:Nat):refsD D (gN e):=trivial
section
variable {S:ASt} {D:AV} {L:List Nat}
theorem rowText_at (ht:Tidy S) (hD:SlR gN S D L) (hb:∀x,x∈L→x<18446744073709551616) (hl:L.length≤100000):Call1 Tryz.prog 110 [D] S (.str (rowT L),S):=by
 have hlv:∀(t:List Nat) (Z:ASt),leaveA ESq Tryz.f110 (xFr [(2,.str t)] 23) Z=some (.str t,Z):=fun t Z=>leave_of (rs:=[.tmp 2]) (by kernel_rfl) rfl (res_tmp (by kernel_rfl) res_nil) rfl
 by_cases h0:L=[]
 ·subst h0
  exact finR ESqok (Z:=S) (preE ESqok noSum_ok 1 [2] (Eq.mp (vcJa D S (· = _)) ⟨hD.len,eT rfl,rfl⟩)) (hlv _ S) (fun _ _=>rfl) (str_p ..) (by simp[refsD])
 have hl0:L.length≠0:=fun e=>h0 (List.eq_nil_of_length_eq_zero e)
 have eT':rowT L=joinL [44] (L.map decL):=by unfold rowT;rw[if_neg h0]
 have hsl:∀{l:List (List Nat)} {s:AV×ASt},GI AV.str S l s→SlR gN s.2 D L:=fun {l s} h=>hD.keep fun k a hk=>by rw[h.old k (ht.lt hk) (fun q=>q)];exact hk
 have hstep:∀(i:Nat) (s:AV×ASt),i<L.length→GI AV.str S ((L.map decL).take i) s→∃s',(Trip Tryz.prog S.next none L110 (fJx s.1 D L.length i) s.2 fun r=>r=(.normal,fJx s'.1 D L.length (i+1),s'.2))∧GI AV.str S ((L.map decL).take (i+1)) s':=fun i s hi hI=>by
  obtain⟨A,X⟩:=s
  have hx:L[i]? = some (L.getD i 0):=by rw[List.getD_eq_getElem?_getD,List.getElem?_eq_getElem hi];rfl
  have hx2:L.getD i 0<18446744073709551616:=hb _ (List.mem_of_getElem? hx)
  obtain⟨r,o,a1,a2⟩:=SlR.at_ (E:=ESq) (t:=49) (u:=22) (kd:=.i64) (hsl hI) (by kernel_rfl) (by kernel_rfl) hx
  obtain⟨P',b1,b2,_⟩:=hI.grow (E:=ESq) (t:=86) (decL (L.getD i 0)) ap86 (by decide) (by rw[List.length_take];omega)
  have e:(L.map decL).take (i+1)=(L.map decL).take i++[decL (L.getD i 0)]:=by
   rw[List.take_add_one,List.getElem?_map,hx];rfl
  refine⟨P',?_,by rw[e];exact b2⟩
  exact pcR ESqok (onlyC_ok (memC_ok (k:=106) (ar:=[.int .u64 (.ofNat (L.getD i 0)),.int .i64 (.ofNat 10)]) (v:=.str (decL (L.getD i 0))) fun Y=>fmt_at hx2)) [3,9,10,11]
   (Eq.mp (vcJd _ L.length i (L.getD i 0) r o (decL (L.getD i 0)) D A (.slice (some (X.next,0)) 1 (.known 1)) P'.1 X (X.add (.cells [.str (decL (L.getD i 0))] true)) P'.2 (· = _)) ⟨lT hi,a1,a2,ca (memC_at ..),by kernel_rfl,b1,opAdd (by omega),rfl⟩)
 obtain⟨T,hT0,hT⟩:=chainG (R:=fun (i:Nat) (s s':AV×ASt)=>Trip Tryz.prog S.next none L110 (fJx s.1 D L.length i) s.2 fun r=>r=(.normal,fJx s'.1 D L.length (i+1),s'.2)) (Inv:=fun i s=>GI AV.str S ((L.map decL).take i) s) (X0:=(.slice none 0 (.known 0),S)) (GX.nil ht) L.length hstep
 have iN:GI AV.str S (L.map decL) (T L.length):=by
  have:=(hT (L.length - 1) (by omega)).2.2
  rw[Nat.sub_add_cancel (by omega)] at this
  have e:(L.map decL).take L.length=L.map decL:=by rw[List.take_of_length_le (by rw[List.length_map];exact Nat.le_refl _)]
  rw[e] at this;exact this
 have hent:Trip Tryz.prog S.next none (seqL (seqL (dropC 2 c110))) (xFr [(0,D),(3,.slice none 0 (.known 0))] 23) S fun z=>z=(.normal,fJx (T 0).1 D L.length 0,(T 0).2):=by
  rw[hT0]
  exact pcR ESqok noSum_ok [3,9,10,11] (Eq.mp (vcJc D L.length S (· = _)) ⟨hD.len,rfl⟩)
 refine finR ESqok (c:=c110) (Z:=(T L.length).2) ?_ (hlv _ _) (fun k hk=>iN.old k hk (fun q=>q)) (str_p ..) (by simp[refsD])
 refine preN ESqok noSum_ok 2 [0,3] (Eq.mp (vcJb D L.length S (· = _)) ⟨hD.len,eF hl0,rfl⟩) ?_
 rw[sh110]
 refine lpN (T:=fun i=>(fJx (T i).1 D L.length i,(T i).2)) hent (fun i hi=>(hT i hi).2.1) (pcR ESqok noSum_ok [3] (Eq.mp (vcJe L.length L.length D _ _ (· = _)) ⟨lF (Nat.le_refl _),rfl⟩)) ?_
 have hlen:=join_len (sep:=[44]) (decs_len hb)
 simp only[List.length_map,List.length_cons,List.length_nil] at hlen
 rw[eT']
 exact pcR ESqok (onlyC_ok (oneC_ok (join_row iN.row.sl (by simpa using h0) (by omega) (by rw[List.length_map];omega)))) [2] (Eq.mp (vcJf _ (joinL [44] (L.map decL)) _ _ (· = _)) ⟨ca oneC_at,rfl⟩)
theorem Row_at (hD:SlR gN S D L) (hb:∀x,x∈L→x<18446744073709551616) (hl:L.length≤100000):Call1 Tryz.prog 67 [D] S (.str (rowT L),S):=by
 have hlv:∀(t:List Nat) (Z:ASt),leaveA ESq Tryz.f67 (xFr [(2,.str t)] 26) Z=some (.str t,Z):=fun t Z=>leave_of (rs:=[.tmp 2]) (by kernel_rfl) rfl (res_tmp (by kernel_rfl) res_nil) rfl
 by_cases h0:L=[]
 ·subst h0
  exact finR ESqok (Z:=S) (preE ESqok noSum_ok 1 [2] (Eq.mp (vcKa D S (· = _)) ⟨hD.len,eT rfl,rfl⟩)) (hlv _ S) (fun _ _=>rfl) (str_p ..) (by simp[refsD])
 have hl0:L.length≠0:=fun e=>h0 (List.eq_nil_of_length_eq_zero e)
 have eT':rowT L=joinL [44] (L.map decL):=by unfold rowT;rw[if_neg h0]
 have hlen:∀i,(joinL [44] ((L.map decL).take i)).length≤21*100000:=fun i=>by
  have h1:=join_len (sep:=[44]) (m:=20) (ws:=(L.map decL).take i) fun w hw=>decs_len hb w (List.mem_of_mem_take hw)
  have h2:((L.map decL).take i).length≤100000:=by rw[List.length_take,List.length_map];omega
  have h3:=Nat.mul_le_mul_left (20+[44].length) h2
  exact Nat.le_trans h1 h3
 let T:Nat→AFr×ASt:=fun i=>(fKx D (joinL [44] ((L.map decL).take i)) i,S)
 have hround:∀i,i<L.length→Trip Tryz.prog S.next none L67 (T i).1 (T i).2 fun z=>z=(.normal,(T (i+1)).1,(T (i+1)).2):=fun i hi=>by
  have hx:L[i]? = some (L.getD i 0):=by rw[List.getD_eq_getElem?_getD,List.getElem?_eq_getElem hi];rfl
  have hx2:L.getD i 0<18446744073709551616:=hb _ (List.mem_of_getElem? hx)
  obtain⟨r,o,a1,a2⟩:=SlR.at_ (E:=ESq) (t:=49) (u:=22) (kd:=.i64) hD (by kernel_rfl) (by kernel_rfl) hx
  have e:(L.map decL).take (i+1)=(L.map decL).take i++[decL (L.getD i 0)]:=by
   rw[List.take_add_one,List.getElem?_map,hx];rfl
  have hq:=onlyC_ok (fs:=[53]) (memC_ok (k:=53) (ar:=[.int .u64 (.ofNat (L.getD i 0))]) (v:=.str (decL (L.getD i 0))) fun Y=>text_at hx2)
  have hd:=decL_le hx2
  have hle:=hlen i
  show Trip Tryz.prog S.next none L67 (fKx D (joinL [44] ((L.map decL).take i)) i) S fun z=>z=(.normal,fKx D (joinL [44] ((L.map decL).take (i+1))) (i+1),S)
  cases i with
  | zero =>
   rw[e]
   exact pcR ESqok hq [0,3,4] (Eq.mp (vcKe _ L.length 0 (L.getD 0 0) r o [] (decL (L.getD 0 0)) (decL (L.getD 0 0)) D S (· = _)) ⟨hD.len,lT hi,gF (Nat.le_refl _),a1,a2,ca (memC_at ..),opCat (by simp only[List.length_nil];omega),opAdd (by decide),by simp[joinL,jnTail];rfl⟩)
  | succ i =>
   have hne:(L.map decL).take (i+1)≠[]:=by
    intro q
    have:=congrArg List.length q
    rw[List.length_take,List.length_map] at this
    simp only[List.length_nil] at this;omega
   rw[e,join_snoc hne]
   exact pcR ESqok hq [0,3,4] (Eq.mp (vcKd _ L.length (i+1) (L.getD (i+1) 0) r o _ _ _ (decL (L.getD (i+1) 0)) D S (· = _)) ⟨hD.len,lT hi,gT (by omega),opCat (by simp only[List.length_cons,List.length_nil];omega),a1,a2,ca (memC_at ..),opCat (by simp only[List.length_append,List.length_cons,List.length_nil];omega),opAdd (by omega),rfl⟩)
 refine finR ESqok (c:=c67) (Z:=S) ?_ (hlv _ _) (fun _ _=>rfl) (str_p ..) (by simp[refsD])
 refine preN ESqok noSum_ok 2 [0,3] (Eq.mp (vcKb D L.length S (· = _)) ⟨hD.len,eF hl0,rfl⟩) ?_
 rw[sh67]
 have eN:(L.map decL).take L.length=L.map decL:=by rw[List.take_of_length_le (by rw[List.length_map];exact Nat.le_refl _)]
 refine lpN (T:=T) (n:=L.length) (pcR ESqok noSum_ok [0,3,4] (Eq.mp (vcKc D S (· = _)) rfl)) hround (pcR ESqok noSum_ok [3] (Eq.mp (vcKf L.length L.length _ D S (· = _)) ⟨hD.len,lF (Nat.le_refl _),rfl⟩)) ?_
 rw[eT',eN]
 exact pcR ESqok noSum_ok [2] (Eq.mp (vcKg _ S (· = _)) rfl)
end
end Go.Proofs.YtcboepooglaogaaGreatDoor.scr
end

section
open Go Go.Ax Go.Proofs
namespace Go.Proofs.YtcboepooglaogaaGreatDoor.scr
set_option linter.unusedVariables false
open spt
def wsF (c:Nat) (s:List Nat):Nat→List (List Nat)×Nat
 | 0=>([],0)
 | i+1=>if s.getD i 0=c then ((wsF c s i).1++[(s.drop (wsF c s i).2).take (i - (wsF c s i).2)],i+1) else wsF c s i
theorem wsF_ok {c:Nat} {s:List Nat}:∀i,i≤s.length→(wsF c s i).2≤i∧(wsF c s i).1.length≤i∧c ∉ (s.drop (wsF c s i).2).take (i - (wsF c s i).2)∧splitC c s=(wsF c s i).1++splitC c (s.drop (wsF c s i).2)
 | 0,_=>⟨Nat.le_refl _,Nat.le_refl _,by simp[wsF],rfl⟩
 | i+1,hi=>by
  obtain⟨h1,h2,h3,h4⟩:=wsF_ok (c:=c) (s:=s) i (by omega)
  have hx:s[i]? = some (s.getD i 0):=getD_at (by omega)
  have hd:s.drop (wsF c s i).2=(s.drop (wsF c s i).2).take (i - (wsF c s i).2)++s.getD i 0::s.drop (i+1):=by
   have e1:(s.drop (wsF c s i).2).drop (i - (wsF c s i).2)=s.getD i 0::s.drop (i+1):=by
    rw[List.drop_drop,show (wsF c s i).2+(i - (wsF c s i).2)=i by omega,List.drop_eq_getElem_cons (by omega)]
    congr 1
    rw[List.getD_eq_getElem?_getD,List.getElem?_eq_getElem (by omega)];rfl
   rw[←e1,List.take_append_drop]
  by_cases he:s.getD i 0=c
  ·simp only[wsF,if_pos he]
   refine⟨Nat.le_refl _,by rw[List.length_append];simp only[List.length_cons,List.length_nil];omega,by simp,?_⟩
   rw[List.append_assoc,List.singleton_append]
   refine h4.trans ?_
   congr 1
   rw[hd,he,splitC_app h3]
   congr 1
   rw[List.take_append_of_le_length (by rw[List.length_take,List.length_drop];omega),List.take_take,Nat.min_self]
  ·simp only[wsF,if_neg he]
   refine⟨by omega,by omega,?_,h4⟩
   have e:(s.drop (wsF c s i).2).take (i+1 - (wsF c s i).2)=(s.drop (wsF c s i).2).take (i - (wsF c s i).2)++[s.getD i 0]:=by
    rw[show i+1 - (wsF c s i).2=(i - (wsF c s i).2)+1 by omega,List.take_add_one,List.getElem?_drop,show (wsF c s i).2+(i - (wsF c s i).2)=i by omega,hx];rfl
   rw[e,List.mem_append,List.mem_singleton]
   rintro (q | q)
   ·exact h3 q
   ·exact he q.symm
theorem wsF_end (c:Nat) (s:List Nat):splitC c s=(wsF c s s.length).1++[s.drop (wsF c s s.length).2]:=by
 obtain⟨h1,h2,h3,h4⟩:=wsF_ok (c:=c) (s:=s) s.length (Nat.le_refl _)
 have e:(s.drop (wsF c s s.length).2).take (s.length - (wsF c s s.length).2)=s.drop (wsF c s s.length).2:=List.take_of_length_le (by rw[List.length_drop];exact Nat.le_refl _)
 rw[e] at h3
 rw[h4,splitC_one h3]
theorem sh60:dropC 2 c60=.seq (.seq (seqL (seqL (dropC 2 c60))) (.block 0 (.loop L60))) (dropC 3 c60):=by kernel_rfl
noncomputable def fUx (s:List Nat) (c:Nat) (A:AV) (f i:Nat):AFr:=xFr [(0,.str s),(1,.int .u8 (.ofNat c)),(5,A),(6,.int .i64 (.ofNat f)),(7,.int .i64 (.ofNat i))] 34
theorem slice_str {S:ASt} {s:List Nat} {f i:Nat} (h1:f≤i) (h2:i≤s.length):still S (aSlice ESq 9 (.str s) (some (.int .i64 (.ofNat f))) (some (.int .i64 (.ofNat i))) none S)=some (.str ((s.drop f).take (i - f)),S):=by
 have e:aSlice ESq 9 (.str s) (some (.int .i64 (.ofNat f))) (some (.int .i64 (.ofNat i))) none S=(match aBounds s.length s.length (some f) (some i) none with | some (l,h,_)=>some (.str ((s.drop l).take (h - l))) | none=>none):=by kernel_rfl
 have e2:aBounds s.length s.length (some f) (some i) none=some (f,i,s.length):=by
  unfold aBounds
  simp only[ble_t h1,ble_t h2,cond_true]
 rw[e2] at e
 exact still_of e
theorem slice_end {S:ASt} {s:List Nat} {f:Nat} (h1:f≤s.length):still S (aSlice ESq 9 (.str s) (some (.int .i64 (.ofNat f))) none none S)=some (.str (s.drop f),S):=by
 have e:aSlice ESq 9 (.str s) (some (.int .i64 (.ofNat f))) none none S=(match aBounds s.length s.length (some f) none none with | some (l,h,_)=>some (.str ((s.drop l).take (h - l))) | none=>none):=by kernel_rfl
 have e2:aBounds s.length s.length (some f) none none=some (f,s.length,s.length):=by
  unfold aBounds
  simp only[ble_t h1,cond_true]
 have e3:(s.drop f).take (s.length - f)=s.drop f:=List.take_of_length_le (by rw[List.length_drop];exact Nat.le_refl _)
 rw[e2] at e
 simp only[e3] at e
 exact still_of e
section
variable {S:ASt} {s:List Nat} {c:Nat}
theorem Words_at (ht:Tidy S) (hl:s.length<50000000):∃V S',Call1 Tryz.prog 60 [.str s,.int .u8 (.ofNat c)] S (V,S')∧Gives AV.str S S' V (splitC c s):=by
 have ql:∀X:ASt,aBuiltinM ESq .len [9] [.str s] X=some (.int .i64 (.ofNat s.length),X):=fun X=>by kernel_rfl
 have hstep:∀(i:Nat) (p:AV×ASt),i<s.length→GI AV.str S (wsF c s i).1 p→∃p',(Trip Tryz.prog S.next none L60 (fUx s c p.1 (wsF c s i).2 i) p.2 fun r=>r=(.normal,fUx s c p'.1 (wsF c s (i+1)).2 (i+1),p'.2))∧GI AV.str S (wsF c s (i+1)).1 p':=fun i p hi hI=>by
  obtain⟨A,X⟩:=p
  obtain⟨h1,h2,h3,h4⟩:=wsF_ok (c:=c) (s:=s) i (by omega)
  have hx:=getD_at hi
  by_cases he:s.getD i 0=c
  ·obtain⟨P',b1,b2,_⟩:=hI.grow (E:=ESq) (t:=86) ((s.drop (wsF c s i).2).take (i - (wsF c s i).2)) ap86 (by decide) (by omega)
   refine⟨P',?_,by simp only[wsF,if_pos he];exact b2⟩
   have e:(wsF c s (i+1)).2=i+1:=by simp only[wsF,if_pos he]
   rw[e]
   exact pcR ESqok noSum_ok [0,1,5,6,7] (Eq.mp (vcUd c (wsF c s i).2 i s.length (s.getD i 0) s _ A (.slice (some (X.next,0)) 1 (.known 1)) P'.1 X (X.add (.cells [.str ((s.drop (wsF c s i).2).take (i - (wsF c s i).2))] true)) P'.2 (· = _))
    ⟨ql X,lT hi,idx0 hx,eT he,slice_str h1 (by omega),by kernel_rfl,b1,opAdd (by omega),opAdd (by omega),rfl⟩)
  ·have e:wsF c s (i+1)=wsF c s i:=by simp only[wsF,if_neg he]
   refine⟨(A,X),?_,by rw[e];exact hI⟩
   rw[e]
   exact pcR ESqok noSum_ok [0,1,5,6,7] (Eq.mp (vcUc c (wsF c s i).2 i s.length (s.getD i 0) s A X (· = _)) ⟨ql X,lT hi,idx0 hx,eF he,opAdd (by omega),rfl⟩)
 obtain⟨T,hT0,hT⟩:=chainG (R:=fun (i:Nat) (p p':AV×ASt)=>Trip Tryz.prog S.next none L60 (fUx s c p.1 (wsF c s i).2 i) p.2 fun r=>r=(.normal,fUx s c p'.1 (wsF c s (i+1)).2 (i+1),p'.2)) (Inv:=fun i p=>GI AV.str S (wsF c s i).1 p) (X0:=(.slice none 0 (.known 0),S)) (GX.nil ht) s.length hstep
 have iN:GI AV.str S (wsF c s s.length).1 (T s.length):=by
  cases e:s.length with
  | zero=>rw[hT0];exact GX.nil ht
  | succ n=>rw[e] at hT;exact (hT n (by omega)).2.2
 obtain⟨h1,h2,h3,h4⟩:=wsF_ok (c:=c) (s:=s) s.length (Nat.le_refl _)
 obtain⟨⟨A,X⟩,hTs⟩:∃p,T s.length=p:=⟨_,rfl⟩
 rw[hTs] at iN
 obtain⟨P',b1,b2,_⟩:=iN.grow (E:=ESq) (t:=86) (s.drop (wsF c s s.length).2) ap86 (by decide) (by omega)
 rw[←wsF_end] at b2
 obtain⟨V,Z⟩:=P'
 have hlv:leaveA ESq Tryz.f60 (xFr [(4,V)] 34) Z=some (V,Z):=leave_of (rs:=[.tmp 4]) (by kernel_rfl) rfl (res_tmp (by kernel_rfl) res_nil) rfl
 refine⟨V,GI.ends ESqok (c:=c60) (by kernel_rfl) (by kernel_rfl) (by kernel_rfl) (N:=34) (by kernel_rfl) b2 ht (fun e=>str_d e) hlv ?_⟩
 refine preN ESqok noSum_ok 2 [0,1,5,6] (Eq.mp (vcUa c s S (· = _)) rfl) ?_
 rw[sh60]
 refine lpN (T:=fun i=>(fUx s c (T i).1 (wsF c s i).2 i,(T i).2)) (n:=s.length) (F:=xFr [(0,.str s),(5,A),(6,.int .i64 (.ofNat (wsF c s s.length).2))] 34) (Z:=X) ?_ (fun i hi=>(hT i hi).2.1) ?_ ?_
 ·rw[hT0];exact pcR ESqok noSum_ok [0,1,5,6,7] (Eq.mp (vcUb c s S (· = _)) rfl)
 ·simp only[hTs];exact pcR ESqok noSum_ok [0,5,6] (Eq.mp (vcUe c (wsF c s s.length).2 s.length s.length s A X (· = _)) ⟨ql X,lF (Nat.le_refl _),rfl⟩)
 ·exact pcR ESqok noSum_ok [4] (Eq.mp (vcUf (wsF c s s.length).2 s (s.drop (wsF c s s.length).2) A (.slice (some (X.next,0)) 1 (.known 1)) V X (X.add (.cells [.str (s.drop (wsF c s s.length).2)] true)) Z (· = _)) ⟨slice_end h1,by kernel_rfl,b1,rfl⟩)
end
theorem GX.from_ {α:Type} {enc:α→AV} {S S1:ASt} {L:List α} {p:AV×ASt} (h:GI enc S1 L p) (hn:S.next≤S1.next) (ho:∀k,k<S.next→S1.h.get k=S.h.get k):GI enc S L p :=
 ⟨by
  rcases h.row with q | ⟨r,h0,h1,h2,h3⟩
  ·exact .inl q
  ·exact .inr ⟨r,h0,h1,Nat.le_trans hn h2,h3⟩,h.tidy,Nat.le_trans hn h.next,fun k hk q=>(h.old k (by omega) q).trans (ho k hk)⟩
theorem splitC_by {c:Nat}:∀{s:List Nat},byS s→∀w,w∈splitC c s→byS w:=by
 have h1:∀(s:List Nat) (w:List Nat),w∈splitC c s→(∀x,x∈w→x∈s)∧w.length≤s.length:=fun s=>by
  induction s with
  | nil=>intro w hw;simp only[splitC,List.mem_singleton] at hw;subst hw;exact⟨fun x h=>h,Nat.le_refl _⟩
  | cons a s ih =>
   intro w hw
   simp only[splitC] at hw
   cases hb:Nat.beq a c
   ·rw[hb,cond_false] at hw
    cases hs:splitC c s with
    | nil=>exact absurd hs (splitC_ne c s)
    | cons y ys =>
     rw[hs] at hw ih
     simp only[List.mem_cons] at hw
     rcases hw with rfl | hw
     ·obtain⟨q1,q2⟩:=ih y List.mem_cons_self
      refine⟨fun x hx=>?_,by simp only[List.length_cons];omega⟩
      rcases List.mem_cons.1 hx with rfl | hx
      ·exact List.mem_cons_self
      ·exact List.mem_cons_of_mem _ (q1 x hx)
     ·obtain⟨q1,q2⟩:=ih w (List.mem_cons_of_mem _ hw)
      exact⟨fun x hx=>List.mem_cons_of_mem _ (q1 x hx),by simp only[List.length_cons];omega⟩
   ·rw[hb,cond_true] at hw
    rcases List.mem_cons.1 hw with rfl | hw
    ·exact⟨fun x hx=>(by cases hx),Nat.zero_le _⟩
    ·obtain⟨q1,q2⟩:=ih w hw
     exact⟨fun x hx=>List.mem_cons_of_mem _ (q1 x hx),by simp only[List.length_cons];omega⟩
 exact fun {s} hs w hw=>⟨fun x hx=>hs.1 x ((h1 s w hw).1 x hx),Nat.lt_of_le_of_lt (h1 s w hw).2 hs.2⟩
theorem splitC_len {c:Nat}:∀{s:List Nat},(splitC c s).length≤s.length+1
 | []=>Nat.le_refl _
 | a::s=>by
  have ih:=splitC_len (c:=c) (s:=s)
  simp only[splitC,List.length_cons]
  cases Nat.beq a c
  ·simp only[cond_false]
   cases hs:splitC c s with
   | nil=>exact absurd hs (splitC_ne c s)
   | cons y ys=>rw[hs] at ih;simp only[List.length_cons] at ih ⊢;omega
  ·simp only[cond_true,List.length_cons];omega
theorem sh64:dropC 3 c64=.seq (.seq (seqL (seqL (dropC 3 c64))) (.block 0 (.loop L64))) (dropC 4 c64):=by kernel_rfl
noncomputable def fHx (m:Nat) (A:AV) (r n i:Nat):AFr:=xFr [(1,.int .u64 (.ofNat m)),(5,A),(6,.slice (some (r,0)) n (.rest 1)),(7,.int .i64 (.ofNat i))] 28
section
variable {S:ASt} {s:List Nat} {m:Nat}
theorem unrow_at (ht:Tidy S) (hb:byS s) (hl:s.length<40000000) (hm:m<18446744073709551616):∃V S',Call1 Tryz.prog 64 [.str s,.int .u64 (.ofNat m)] S (V,S')∧Gives gN S S' V (rowV m s):=by
 by_cases h0:s=[45]
 ·subst h0
  have e:rowV m [45]=[]:=rfl
  rw[e]
  have hlv:leaveA ESq Tryz.f64 (xFr [(4,.slice none 0 (.known 0))] 28) S=some (.slice none 0 (.known 0),S):=leave_of (rs:=[.tmp 4]) (by kernel_rfl) rfl (res_tmp (by kernel_rfl) res_nil) rfl
  exact⟨_,GI.ends (enc:=gN) ESqok (c:=c64) (by kernel_rfl) (by kernel_rfl) (by kernel_rfl) (N:=28) (by kernel_rfl) (GX.nil ht) ht (fun e=>gN_d e) hlv (preE ESqok noSum_ok 1 [4] (Eq.mp (vcHa [45] m S (· = _)) ⟨sT rfl,rfl⟩))⟩
 have eV:rowV m s=(splitC 44 s).map (numV m):=by unfold rowV;rw[if_neg h0]
 obtain⟨V1,S1,hc,g1,g2,g3,g4⟩:=Words_at (S:=S) (s:=s) (c:=44) ht (by omega)
 have hn:=splitC_len (c:=44) (s:=s)
 rcases g1 with⟨e1,e2⟩ | ⟨r,e0,e1,e2,e3⟩
 ·exact absurd e2 (splitC_ne 44 s)
 subst e1
 have hby:=splitC_by (c:=44) hb
 have hr1:r<S1.next:=g2.lt e3
 have hstep:∀(i:Nat) (p:AV×ASt),i<(splitC 44 s).length→GI gN S1 (((splitC 44 s).map (numV m)).take i) p→∃p',(Trip Tryz.prog S.next none L64 (fHx m p.1 r (splitC 44 s).length i) p.2 fun q=>q=(.normal,fHx m p'.1 r (splitC 44 s).length (i+1),p'.2))∧GI gN S1 (((splitC 44 s).map (numV m)).take (i+1)) p':=fun i p hi hI=>by
  obtain⟨A,X⟩:=p
  have hx:(splitC 44 s)[i]? = some ((splitC 44 s).getD i []):=by rw[List.getD_eq_getElem?_getD,List.getElem?_eq_getElem hi];rfl
  have hX:X.h.get r=some (.cells ((splitC 44 s).map AV.str) true):=by rw[hI.old r hr1 (fun q=>q)];exact e3
  obtain⟨P',b1,b2,_⟩:=hI.grow (E:=ESq) (t:=49) (numV m ((splitC 44 s).getD i [])) ap49 (by decide) (by rw[List.length_take];omega)
  have e:((splitC 44 s).map (numV m)).take (i+1)=((splitC 44 s).map (numV m)).take i++[numV m ((splitC 44 s).getD i [])]:=by
   rw[List.take_add_one,List.getElem?_map,hx];rfl
  refine⟨P',?_,by rw[e];exact b2⟩
  have ix:=still_idx (E:=ESq) (t:=86) (z:=1) (i:=r) (o:=0) (n:=(splitC 44 s).length) (k:=i) (c:=.rest 1) (kd:=.i64) (st:=X) (by kernel_rfl) hi
  rw[Nat.zero_add] at ix
  exact pcR ESqok (onlyC_ok (memC_ok (k:=115) (ar:=[.str ((splitC 44 s).getD i []),.int .u64 (.ofNat m)]) (v:=.int .u64 (.ofNat (numV m ((splitC 44 s).getD i [])))) fun Y=>num_at (hby _ (List.mem_of_getElem? hx)) hm)) [1,5,6,7]
   (Eq.mp (vcHd _ r (splitC 44 s).length m i (numV m ((splitC 44 s).getD i [])) ((splitC 44 s).getD i []) A (.slice (some (X.next,0)) 1 (.known 1)) P'.1 X (X.add (.cells [gN (numV m ((splitC 44 s).getD i []))] true)) P'.2 (· = _))
    ⟨lT hi,ix,ldK hX hi,ca (memC_at ..),by kernel_rfl,b1,opAdd (by omega),rfl⟩)
 obtain⟨T,hT0,hT⟩:=chainG (R:=fun (i:Nat) (p p':AV×ASt)=>Trip Tryz.prog S.next none L64 (fHx m p.1 r (splitC 44 s).length i) p.2 fun q=>q=(.normal,fHx m p'.1 r (splitC 44 s).length (i+1),p'.2)) (Inv:=fun i p=>GI gN S1 (((splitC 44 s).map (numV m)).take i) p) (X0:=(.slice none 0 (.known 0),S1)) (GX.nil g2) (splitC 44 s).length hstep
 have iN:GI gN S1 ((splitC 44 s).map (numV m)) (T (splitC 44 s).length):=by
  have:=(hT ((splitC 44 s).length - 1) (by omega)).2.2
  rw[Nat.sub_add_cancel (by omega)] at this
  have e:((splitC 44 s).map (numV m)).take (splitC 44 s).length=(splitC 44 s).map (numV m):=by rw[List.take_of_length_le (by rw[List.length_map];exact Nat.le_refl _)]
  rw[e] at this;exact this
 obtain⟨⟨V,Z⟩,hTs⟩:∃p,T (splitC 44 s).length=p:=⟨_,rfl⟩
 rw[hTs] at iN
 have hlv:leaveA ESq Tryz.f64 (xFr [(4,V)] 28) Z=some (V,Z):=leave_of (rs:=[.tmp 4]) (by kernel_rfl) rfl (res_tmp (by kernel_rfl) res_nil) rfl
 rw[eV]
 refine⟨V,GI.ends ESqok (c:=c64) (by kernel_rfl) (by kernel_rfl) (by kernel_rfl) (N:=28) (by kernel_rfl) (GX.from_ iN g3 g4) ht (fun e=>gN_d e) hlv ?_⟩
 refine preN ESqok (onlyC_ok (oneC_ok hc)) 3 [1,5,6] (Eq.mp (vcHb _ r (splitC 44 s).length m s S S1 (· = _)) ⟨sF h0,ca oneC_at,rfl⟩) ?_
 rw[sh64]
 refine lpN (T:=fun i=>(fHx m (T i).1 r (splitC 44 s).length i,(T i).2)) (n:=(splitC 44 s).length) (F:=xFr [(5,V)] 28) (Z:=Z) ?_ (fun i hi=>(hT i hi).2.1) ?_ ?_
 ·rw[hT0];exact pcR ESqok noSum_ok [1,5,6,7] (Eq.mp (vcHc r (splitC 44 s).length m S1 (· = _)) rfl)
 ·simp only[hTs];exact pcR ESqok noSum_ok [5] (Eq.mp (vcHe r (splitC 44 s).length m (splitC 44 s).length V Z (· = _)) ⟨lF (Nat.le_refl _),rfl⟩)
 ·exact pcR ESqok noSum_ok [4] (Eq.mp (vcHf V Z (· = _)) rfl)
end
end Go.Proofs.YtcboepooglaogaaGreatDoor.scr
end

section
open Go Go.Ax Go.Proofs
namespace Go.Proofs.YtcboepooglaogaaGreatDoor.scr
set_option linter.unusedVariables false
open spt
theorem wO_0 (r n:Nat) (b:Bool):wO r n 0 b=.cells [.slice (some (r,0)) n (.known n),.bool b] true:=by
 unfold wO
 rw[show Nat.min 0 (n - 1)=0 from Nat.zero_min _];rfl
theorem sh59:dropC 4 c59=.seq (.block 0 (.loop L59)) (dropC 5 c59):=by kernel_rfl
noncomputable def fRx (w m k:Nat) (A:AV):AFr:=xFr [(0,.ptr (some (w,0))),(1,.int .u64 (.ofNat m)),(6,.ptr (some (k,0))),(7,A)] 42
structure RowE (S S':ASt) (w:Nat) (a:AO) (V:AV) (L:List Nat):Prop where
 at_:S'.h.get w=some a
 row:Grw gN S.next S' V L
 tidy:Tidy S'
 next:S.next≤S'.next
 old:∀k,k<S.next→k≠w→S'.h.get k=S.h.get k
theorem any_take {p:List Nat→Bool} {ws:List (List Nat)} {i:Nat} (h:i<ws.length):(ws.take (i+1)).any p=((ws.take i).any p || p (ws.getD i [])):=by
 have hx:ws[i]? = some (ws.getD i []):=by rw[List.getD_eq_getElem?_getD,List.getElem?_eq_getElem h];rfl
 rw[List.take_add_one,List.any_append,hx]
 simp
section
variable {S:ASt} {w r o m:Nat} {b rw':Bool} {xs:List (List Nat)}
theorem row_at (ht:Tidy S) (hw:S.h.get w=some (wO r xs.length o b)) (hr:S.h.get r=some (.cells (xs.map AV.str) rw')) (hwr:r≠w) (ho:o≤xs.length) (hb:∀x,x∈xs→byS x) (hl:(xs.getD o []).length<40000000) (hm:m<18446744073709551616) :
  ∃V S',Call1 Tryz.prog 59 [.ptr (some (w,0)),.int .u64 (.ofNat m)] S (V,S')∧RowE S S' w (wO r xs.length (min (o+1) xs.length) (b || (decide (xs.length≤o) || rowB m (xs.getD o [])))) V (rowV m (xs.getD o [])):=by
 obtain⟨S1,h1,h2⟩:=word_at hw hr ho
 have hwn:w<S.next:=ht.lt hw
 have t1:=h2.tidy ht hwn
 have hlv:∀(V:AV) (Z:ASt),leaveA ESq Tryz.f59 (xFr [(4,V)] 42) Z=some (V,Z):=fun V Z=>leave_of (rs:=[.tmp 4]) (by kernel_rfl) rfl (res_tmp (by kernel_rfl) res_nil) rfl
 have gdw:∀bb:Bool,Go.Ax.Good S w∧refsB (Go.Ax.Good S) (wO r xs.length (min (o+1) xs.length) bb):=fun bb=>⟨.inr ⟨_,hw,by unfold wO;simp⟩,⟨.inr ⟨_,hr,by simp⟩,trivial,trivial⟩⟩
 generalize hs:xs.getD o []=s at h1 h2 hl ⊢
 have hbs:byS s:=hs▸byS_at hb o
 by_cases h0:s=[45]
 ·subst h0
  have e1:rowV m [45]=[]:=rfl
  have e2:rowB m [45]=false:=rfl
  rw[e1,e2,Bool.or_false]
  obtain⟨S',q1,q2,q3⟩:=Call1.ends ESqok (fn:=Tryz.f59) (c:=c59) (by kernel_rfl) (by kernel_rfl) (by kernel_rfl) (N:=42) (by kernel_rfl) (S:=S) (L:=[(w,wO r xs.length (min (o+1) xs.length) (b || decide (xs.length≤o)))]) (M:=S.next) (v:=.slice none 0 (.known 0)) (args:=[.ptr (some (w,0)),.int .u64 (.ofNat m)]) ht (by simp) (Nat.le_refl _) (fun p hp=>by rw[List.mem_singleton.1 hp];exact hwn) (fun p hp=>by rw[List.mem_singleton.1 hp];exact gdw _) trivial
   ((preE ESqok (onlyC_ok (oneC_ok h1)) 2 [4] (Eq.mp (vcRa _ w m [45] S S1 (· = _)) ⟨ca oneC_at,sT rfl,rfl⟩)).mono fun z hz=>by subst hz;exact⟨.inr rfl,S1,hlv _ S1,⟨fun p hp=>by rw[List.mem_singleton.1 hp];exact h2.at_,fun p hp=>by rw[List.mem_singleton.1 hp];exact gdw _,fun k hk hq=>h2.ne k (fun e=>hq _ (List.mem_singleton_self _) e.symm)⟩,by rw[h2.next];exact Nat.le_refl _⟩)
  exact⟨_,S',q1,q2.at_ _ (List.mem_singleton_self _),.inl ⟨rfl,rfl⟩,q2.tidy,q2.next,fun k hk hkw=>q2.old k (fun p hp=>by rw[List.mem_singleton.1 hp];exact fun e=>hkw e.symm)⟩
 have eV:rowV m s=(splitC 44 s).map (numV m):=by unfold rowV;rw[if_neg h0]
 have eB:rowB m s=(splitC 44 s).any (numB m):=by unfold rowB;rw[if_neg h0]
 rw[eV,eB]
 have hby:=splitC_by (c:=44) hbs
 have hlen:=splitC_len (c:=44) (s:=s)
 have hne:=splitC_ne 44 s
 generalize hws:splitC 44 s=ws at hby hlen hne ⊢
 have hn0:ws.length≠0:=fun e=>hne (List.eq_nil_of_length_eq_zero e)
 obtain⟨S2,e2⟩:∃Y,Y=S1.add (.cells (ws.map AV.str) true):=⟨_,rfl⟩
 have hsp:sumSplit 55 55 [.str s,.str [44]] S1=some (.slice (some (S1.next,0)) ws.length (.known ws.length),S2):=by
  unfold sumSplit
  simp only[Nat.beq_refl,cond_true]
  rw[blt_t (show s.length<4294967281 by omega),hws,e2];rfl
 obtain⟨S3,e3⟩:∃Y,Y=S2.add (wO S1.next ws.length 0 false):=⟨_,rfl⟩
 have n2:S2.next=S1.next+1:=by rw[e2];rfl
 have n3:S3.next=S1.next+2:=by rw[e3];show S2.next+1=_;omega
 have t2:Tidy S2:=by rw[e2];exact t1.add
 have t3:Tidy S3:=by rw[e3];exact t2.add
 have hbox:aBox (.agg [.slice (some (S1.next,0)) ws.length (.known ws.length),.bool false]) S2=some (.ptr (some (S2.next,0)),S3):=by rw[e3,wO_0];kernel_rfl
 have gk:S3.h.get S2.next=some (wO S1.next ws.length 0 false):=by rw[e3];exact add_at
 have gr:S3.h.get S1.next=some (.cells (ws.map AV.str) true):=by rw[e3,add_ne (by omega),e2];exact add_at
 have o3:∀k,k<S1.next→S3.h.get k=S1.h.get k:=fun k hk=>by rw[e3,add_ne (by omega),e2,add_ne (by omega)]
 have hnx:S1.next=S.next:=h2.next
 let Inv:Nat→AV×ASt→Prop:=fun i p=>GX gN (· = S2.next) S3 ((ws.map (numV m)).take i) p∧p.2.h.get S2.next=some (wO S1.next ws.length i ((ws.take i).any (numB m)))
 have hstep:∀(i:Nat) (p:AV×ASt),i<ws.length→Inv i p→∃p',(Trip Tryz.prog S.next none L59 (fRx w m S2.next p.1) p.2 fun q=>q=(.normal,fRx w m S2.next p'.1,p'.2))∧Inv (i+1) p':=fun i p hi hI=>by
  obtain⟨A,X⟩:=p
  obtain⟨hG,hK⟩:=hI
  have hx:ws[i]? = some (ws.getD i []):=by rw[List.getD_eq_getElem?_getD,List.getElem?_eq_getElem hi];rfl
  have hXr:X.h.get S1.next=some (.cells (ws.map AV.str) true):=by rw[hG.old S1.next (by omega) (by omega)];exact gr
  have hkX:S2.next<X.next:=hG.tidy.lt hK
  obtain⟨X1,k1,k2⟩:=number_at (m:=m) hG.tidy hK hXr (by omega) (by omega) hby hm
  rw[Nat.min_eq_left (by omega),decide_eq_false (by omega),Bool.false_or,←any_take hi] at k2
  have tX1:=k2.tidy hG.tidy hkX
  have hG1:GX gN (· = S2.next) S3 ((ws.map (numV m)).take i) (A,X1):=hG.on (fun k hk hq=>k2.ne k hq) (fun k hk=>by omega) tX1 (by rw[k2.next];exact Nat.le_refl _)
  obtain⟨P',b1,b2,b3⟩:=hG1.grow (E:=ESq) (t:=49) (numV m (ws.getD i [])) ap49 (by decide) (by rw[List.length_take];omega)
  have e:(ws.map (numV m)).take (i+1)=(ws.map (numV m)).take i++[numV m (ws.getD i [])]:=by
   rw[List.take_add_one,List.getElem?_map,hx];rfl
  refine⟨P',?_,by rw[e];exact b2,by rw[b3 _ (by omega)];exact k2.at_⟩
  exact pcR ESqok (onlyC_ok (oneC_ok k1)) [0,1,6,7] (Eq.mp (vcRc _ w m S2.next S1.next _ (ws.length - i) (numV m (ws.getD i [])) A (.slice (some (X1.next,0)) 1 (.known 1)) P'.1 X X1 (X1.add (.cells [gN (numV m (ws.getD i []))] true)) P'.2 (· = _))
    ⟨w0 hK,gT (by omega),ca oneC_at,by kernel_rfl,b1,rfl⟩)
 obtain⟨T,hT0,hT⟩:=chainG (R:=fun (i:Nat) (p p':AV×ASt)=>Trip Tryz.prog S.next none L59 (fRx w m S2.next p.1) p.2 fun q=>q=(.normal,fRx w m S2.next p'.1,p'.2)) (Inv:=Inv) (X0:=(.slice none 0 (.known 0),S3)) ⟨GX.nil t3,gk⟩ ws.length hstep
 have iN:=(hT (ws.length - 1) (by omega)).2.2
 rw[Nat.sub_add_cancel (by omega)] at iN
 obtain⟨⟨A,X⟩,hTs⟩:∃p,T ws.length=p:=⟨_,rfl⟩
 rw[hTs] at iN
 obtain⟨hG,hK⟩:=iN
 have eN:(ws.map (numV m)).take ws.length=ws.map (numV m):=by rw[List.take_of_length_le (by rw[List.length_map];exact Nat.le_refl _)]
 rw[eN] at hG
 rw[List.take_length] at hK
 have gw:X.h.get w=some (wO r xs.length (min (o+1) xs.length) (b || decide (xs.length≤o))):=by rw[hG.old w (by omega) (by omega),o3 w (by omega)];exact h2.at_
 have hold:∀k,k<S.next→k≠w→X.h.get k=S.h.get k:=fun k hk hkw=>by rw[hG.old k (by omega) (by omega),o3 k (by omega),h2.ne k hkw]
 have hpre:∀{F:AFr} {Z:ASt},(Trip Tryz.prog S.next none (dropC 5 c59) (xFr [(0,.ptr (some (w,0))),(6,.ptr (some (S2.next,0))),(7,A)] 42) X fun q=>q=(.ret,F,Z))→Trip Tryz.prog S.next none c59 {m:=putArgs [.ptr (some (w,0)),.int .u64 (.ofNat m)] 0 .e,n:=42,defs:=[]} S fun q=>q=(.ret,F,Z):=fun {F Z} hh=>by
  refine preN ESqok (onlyC_ok (orC_ok (oneC_ok h1) split_ok)) 4 [0,1,6,7] (Eq.mp (vcRb _ w m S2.next S1.next ws.length s S S1 S2 S3 (· = _)) ⟨ca oL,sF h0,ca (oR hsp),hbox,rfl⟩) ?_
  rw[sh59]
  refine Trip.then (Trip.turns (T:=fun i=>(fRx w m S2.next (T i).1,(T i).2)) (n:=ws.length) (F:=xFr [(0,.ptr (some (w,0))),(6,.ptr (some (S2.next,0))),(7,A)] 42) (Z:=X) (fun i hi=>(hT i hi).2.1) ?_ |> fun h=>by rw[hT0] at h;exact h) hh
  simp only[hTs]
  have hK0:=w0 hK
  rw[Nat.sub_self] at hK0
  exact pcR ESqok noSum_ok [0,6,7] (Eq.mp (vcRd w m S2.next S1.next _ 0 A X (· = _)) ⟨hK0,gF (Nat.le_refl _),rfl⟩)
 have hrun:∃Z,(Trip Tryz.prog S.next none c59 {m:=putArgs [.ptr (some (w,0)),.int .u64 (.ofNat m)] 0 .e,n:=42,defs:=[]} S fun q=>q=(.ret,xFr [(4,A)] 42,Z))∧WAt X Z w (wO r xs.length (min (o+1) xs.length) (b || (decide (xs.length≤o) || ws.any (numB m)))):=by
  cases hbb:b || decide (xs.length≤o) with
  | true =>
   rw[hbb] at gw
   have e:(b || (decide (xs.length≤o) || ws.any (numB m)))=true:=by rw[←Bool.or_assoc,hbb];rfl
   rw[e]
   exact⟨_,hpre (pcR ESqok noSum_ok [4] (Eq.mp (vcRe w S2.next A X _ (· = _)) ⟨w1 gw,ws1 gw true,rfl⟩)),WAt.put⟩
  | false =>
   rw[hbb] at gw
   have e:(b || (decide (xs.length≤o) || ws.any (numB m)))=ws.any (numB m):=by rw[←Bool.or_assoc,hbb];rfl
   rw[e]
   exact⟨_,hpre (pcR ESqok noSum_ok [4] (Eq.mp (vcRf w S2.next (ws.any (numB m)) A X _ (· = _)) ⟨w1 gw,w1 hK,ws1 gw _,rfl⟩)),WAt.put⟩
 obtain⟨Z,hz,hZ⟩:=hrun
 rcases hG.row with⟨q1,q2⟩ | ⟨r2,q0,q1,q2,q3⟩
 ·exfalso
  have:=congrArg List.length q2
  rw[List.length_map] at this
  exact hn0 this
 simp only at q1 q3
 subst q1
 have hr2:r2<X.next:=hG.tidy.lt q3
 have gdr:∀p,p∈[(w,wO r xs.length (min (o+1) xs.length) (b || (decide (xs.length≤o) || ws.any (numB m)))),(r2,AO.cells ((ws.map (numV m)).map gN) true)]→Go.Ax.Good S p.1∧refsB (Go.Ax.Good S) p.2:=fun p hp=>by
  rcases List.mem_cons.1 hp with rfl | hp
  ·exact gdw _
  ·rw[List.mem_singleton.1 hp]
   exact⟨.inl (by show S.next≤r2;omega),encs_d (fun e=>gN_d e) _⟩
 have hcase:∀{p:Nat×AO} {Q:Nat×AO→Prop},p∈[(w,wO r xs.length (min (o+1) xs.length) (b || (decide (xs.length≤o) || ws.any (numB m)))),(r2,AO.cells ((ws.map (numV m)).map gN) true)]→Q (w,wO r xs.length (min (o+1) xs.length) (b || (decide (xs.length≤o) || ws.any (numB m))))→Q (r2,AO.cells ((ws.map (numV m)).map gN) true)→Q p:=fun {p Q} hp h1 h2=>by
  rcases List.mem_cons.1 hp with rfl | hp
  ·exact h1
  ·rw[List.mem_singleton.1 hp];exact h2
 have hr2w:r2≠w:=by omega
 have atZ:∀p,p∈[(w,wO r xs.length (min (o+1) xs.length) (b || (decide (xs.length≤o) || ws.any (numB m)))),(r2,AO.cells ((ws.map (numV m)).map gN) true)]→Z.h.get p.1=some p.2:=fun p hp=>hcase (Q:=fun p=>Z.h.get p.1=some p.2) hp hZ.at_ (by rw[hZ.ne r2 hr2w];exact q3)
 obtain⟨S',u1,u2,u3⟩:=Call1.ends ESqok (fn:=Tryz.f59) (c:=c59) (by kernel_rfl) (by kernel_rfl) (by kernel_rfl) (N:=42) (by kernel_rfl) (S:=S) (L:=[(w,wO r xs.length (min (o+1) xs.length) (b || (decide (xs.length≤o) || ws.any (numB m)))),(r2,AO.cells ((ws.map (numV m)).map gN) true)]) (M:=X.next) (v:=.slice (some (r2,0)) ((ws.map (numV m)).length) (.rest 1)) (args:=[.ptr (some (w,0)),.int .u64 (.ofNat m)]) ht (by simp;exact fun e=>hr2w e.symm) (by have:=hG.next;simp only at this;omega)
  (fun p hp=>hcase (Q:=fun p=>p.1<X.next) hp (by have:=hG.next;simp only at this;show w<X.next;omega) hr2) gdr (.inl (by show S.next≤r2;omega))
  (hz.mono fun z hz=>by subst hz;exact⟨.inr rfl,Z,hlv _ Z,⟨atZ,gdr,fun k hk hq=>by
   have hkw:k≠w:=fun e=>hq _ List.mem_cons_self e.symm
   rw[hZ.ne k hkw];exact hold k hk hkw⟩,by show Z.next≤X.next;rw[hZ.next];exact Nat.le_refl _⟩)
 refine⟨_,S',u1,u2.at_ _ List.mem_cons_self,.inr ⟨r2,q0,rfl,by omega,u2.at_ _ (List.mem_cons_of_mem _ (List.mem_singleton_self _))⟩,u2.tidy,u2.next,fun k hk hkw=>u2.old k (fun p hp=>hcase (Q:=fun p=>p.1≠k) hp (fun e=>hkw e.symm) (by show r2≠k;omega))⟩
end
end Go.Proofs.YtcboepooglaogaaGreatDoor.scr
end
