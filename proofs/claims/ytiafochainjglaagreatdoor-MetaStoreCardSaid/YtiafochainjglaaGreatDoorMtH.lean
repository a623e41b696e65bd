/-
  OWN WORK, A PART: an abstract machine for the program's text that the kernel can run, and the proof that it is sound: what it answers is what the program answers; contracts of functions by it. No condition.
-/
import Derived.Test.YtiafochainjglaaGreatDoorMtG
import Derived.Test.YtiafochainjglaaGreatDoorMtA
import Derived.Test.YtiafochainjglaaGreatDoorMtF
import Derived.Test.YtiafochainjglaaGreatDoorHaR
import Derived.KernelRfl
import Derived.Test.YtiafochainjglaaGreatDoorMtE
section
open Go Go.Ax Go.Proofs
namespace Go.Proofs.YtiafochainjglaaGreatDoor.drp.sh
open cd
set_option linter.unusedVariables false
noncomputable def fnsZ:List (Nat×Func):=[(174,Tryz.f174),(157,Tryz.f157)]
noncomputable def EZ:Env:=envEx Tryz.prog [0,3,4,5,24,111,176,190] fnsZ []
noncomputable def cSh:Code:=Option.getD Tryz.f174.body .skip
noncomputable def cSr:Code:=Option.getD Tryz.f157.body .skip
noncomputable abbrev qCt (a:Nat):=AV.int .u64 (qAH .u64 (.ofNat a))
noncomputable abbrev qCZ (a:Nat):=AV.int .u64 (.ofNat a)
noncomputable abbrev qCs (a:Nat):=AV.int .u8 (.ofNat a)
noncomputable abbrev qCr (a b:Nat):=qAQ EZ 5 (AV.ptr (some (a,b)))
noncomputable abbrev qHu (a:Nat):=AV.int .u64 (qDO .u64 (.ofNat a) 8)
theorem vcSh (q:CallT) (A:AV) (k0:Nat) (b w:Nat→Nat) (S S1 S2:ASt) (Q:qz2) :
 Vq ((TM EZ (qA0 [131,186] q) [] fl0 60).ex ⟨[4,8,14,19,4095,4094],[],[],[]⟩ none cSh {m:=qAM [A] 0 .e,n:=22,defs:=[]} S) (fun r=>Q (qAx [2] r)) (al ((M EZ (drawA EZ) (qA0 [131,186] q) 56).call 131 [A]) S (.agg (cl (fun j=>.ofNat (b j)))) (aa (qAY EZ 190 S) (.ptr (some (k0,0)),S1) (aa (Option.map (fun s=>(qAC,s)) (qAL EZ 190 (.ptr (some (k0,0))) (.agg (cl (fun j=>.ofNat (b j)))) S1)) (.tuple [],S2) (al (qCr k0 0) S2 (qCs (b 0)) (as_ S2 (qAD EZ .or 24 (.tmp 16) (.tmp 18) (qCZ 0) (qCt (b 0))) (qCZ (w 1)) (al (qCr k0 1) S2 (qCs (b 1)) (as_ S2 (qAD EZ .or 24 (.tmp 16) (.tmp 18) (qHu (w 1)) (qCt (b 1))) (qCZ (w 2)) (al (qCr k0 2) S2 (qCs (b 2)) (as_ S2 (qAD EZ .or 24 (.tmp 16) (.tmp 18) (qHu (w 2)) (qCt (b 2))) (qCZ (w 3)) (al (qCr k0 3) S2 (qCs (b 3)) (as_ S2 (qAD EZ .or 24 (.tmp 16) (.tmp 18) (qHu (w 3)) (qCt (b 3))) (qCZ (w 4)) (al (qCr k0 4) S2 (qCs (b 4)) (as_ S2 (qAD EZ .or 24 (.tmp 16) (.tmp 18) (qHu (w 4)) (qCt (b 4))) (qCZ (w 5)) (al (qCr k0 5) S2 (qCs (b 5)) (as_ S2 (qAD EZ .or 24 (.tmp 16) (.tmp 18) (qHu (w 5)) (qCt (b 5))) (qCZ (w 6)) (al (qCr k0 6) S2 (qCs (b 6)) (as_ S2 (qAD EZ .or 24 (.tmp 16) (.tmp 18) (qHu (w 6)) (qCt (b 6))) (qCZ (w 7)) (al (qCr k0 7) S2 (qCs (b 7)) (as_ S2 (qAD EZ .or 24 (.tmp 16) (.tmp 18) (qHu (w 7)) (qCt (b 7))) (qCZ (w 8)) (aq (Q (.ret,xFr [(2,.int .u64 (.ofNat (w 8)))] 22,S2)))))))))))))))))))))):=vq (by kernel_rfl)
noncomputable abbrev qHv (a:Nat):=AV.int .u64 (qAH .u64 (.ofNat 256 * .ofNat a))
theorem vcSr (q:CallT) (A:AV) (k0:Nat) (b w:Nat→Nat) (S S1 S2:ASt) (Q:qz2) :
 Vq ((TM EZ (qA0 [131,186] q) [] fl0 60).ex ⟨[3,7,16,18,4095,4094],[],[],[]⟩ none cSr {m:=qAM [A] 0 .e,n:=20,defs:=[]} S) (fun r=>Q (qAx [2] r)) (al ((M EZ (drawA EZ) (qA0 [131,186] q) 57).call 186 [A]) S (.agg (cl (fun j=>.ofNat (b j)))) (aa (qAY EZ 190 S) (.ptr (some (k0,0)),S1) (aa (Option.map (fun s=>(qAC,s)) (qAL EZ 190 (.ptr (some (k0,0))) (.agg (cl (fun j=>.ofNat (b j)))) S1)) (.tuple [],S2) (al (qCr k0 0) S2 (qCs (b 0)) (as_ S2 (qAD EZ .add 24 (.tmp 13) (.tmp 17) (qCZ 0) (qCt (b 0))) (qCZ (w 1)) (al (qCr k0 1) S2 (qCs (b 1)) (as_ S2 (qAD EZ .add 24 (.tmp 13) (.tmp 17) (qHv (w 1)) (qCt (b 1))) (qCZ (w 2)) (al (qCr k0 2) S2 (qCs (b 2)) (as_ S2 (qAD EZ .add 24 (.tmp 13) (.tmp 17) (qHv (w 2)) (qCt (b 2))) (qCZ (w 3)) (al (qCr k0 3) S2 (qCs (b 3)) (as_ S2 (qAD EZ .add 24 (.tmp 13) (.tmp 17) (qHv (w 3)) (qCt (b 3))) (qCZ (w 4)) (al (qCr k0 4) S2 (qCs (b 4)) (as_ S2 (qAD EZ .add 24 (.tmp 13) (.tmp 17) (qHv (w 4)) (qCt (b 4))) (qCZ (w 5)) (al (qCr k0 5) S2 (qCs (b 5)) (as_ S2 (qAD EZ .add 24 (.tmp 13) (.tmp 17) (qHv (w 5)) (qCt (b 5))) (qCZ (w 6)) (al (qCr k0 6) S2 (qCs (b 6)) (as_ S2 (qAD EZ .add 24 (.tmp 13) (.tmp 17) (qHv (w 6)) (qCt (b 6))) (qCZ (w 7)) (al (qCr k0 7) S2 (qCs (b 7)) (as_ S2 (qAD EZ .add 24 (.tmp 13) (.tmp 17) (qHv (w 7)) (qCt (b 7))) (qCZ (w 8)) (aq (Q (.ret,xFr [(2,.int .u64 (.ofNat (w 8)))] 20,S2)))))))))))))))))))))):=vq (by kernel_rfl)
open cd2 (Shorts)
open cd3
theorem EZok:Env.Ok Tryz.prog EZ:=envEx_ok (xs:=[]) ⟨⟨Tryz.func174,Tryz.call174⟩,⟨Tryz.func157,Tryz.call157⟩,trivial⟩ trivial (by kernel_rfl)
section
variable {S:ASt} {x y:Operand}
theorem orZ0 {b:Nat} (hb:b<256):still S (qAD EZ .or 24 x y (.int .u64 (.ofNat 0)) (.int .u64 (qAH .u64 (.ofNat b))))=some (.int .u64 (.ofNat (0*256+b)),S):=by
 have e:qAD EZ .or 24 x y (.int .u64 (.ofNat 0)) (.int .u64 (qAH .u64 (.ofNat b)))=some (.int .u64 (qAH .u64 (.ofNat (Nat.lor 0 (qB5 (qAH .u64 (.ofNat b)) 18446744073709551616))))):=by kernel_rfl
 rw[or0 hb] at e;rw[Nat.zero_mul,Nat.zero_add];exact qAF e
theorem qW2 {n b:Nat} (hn:n<72057594037927936) (hb:b<256):still S (qAD EZ .or 24 x y (.int .u64 (qDO .u64 (.ofNat n) 8)) (.int .u64 (qAH .u64 (.ofNat b))))=some (.int .u64 (.ofNat (n*256+b)),S):=by
 have e:qAD EZ .or 24 x y (.int .u64 (qDO .u64 (.ofNat n) 8)) (.int .u64 (qAH .u64 (.ofNat b)))=some (.int .u64 (qAH .u64 (.ofNat (Nat.lor (qB5 (qDO .u64 (.ofNat n) 8) 18446744073709551616) (qB5 (qAH .u64 (.ofNat b)) 18446744073709551616))))):=by kernel_rfl
 rw[or1 hn hb] at e;exact qAF e
theorem adZ0 {b:Nat} (hb:b<256):still S (qAD EZ .add 24 x y (.int .u64 (.ofNat 0)) (.int .u64 (qAH .u64 (.ofNat b))))=some (.int .u64 (.ofNat (0*256+b)),S):=by
 have e:qAD EZ .add 24 x y (.int .u64 (.ofNat 0)) (.int .u64 (qAH .u64 (.ofNat b)))=some (.int .u64 (qAH .u64 (.ofNat 0+qAH .u64 (.ofNat b)))):=by kernel_rfl
 rw[ad0 hb] at e;rw[Nat.zero_mul,Nat.zero_add];exact qAF e
theorem adZ1 {n b:Nat} (hn:n<72057594037927936) (hb:b<256):still S (qAD EZ .add 24 x y (.int .u64 (qAH .u64 (.ofNat n * .ofNat 256))) (.int .u64 (qAH .u64 (.ofNat b))))=some (.int .u64 (.ofNat (n*256+b)),S):=by
 have e:qAD EZ .add 24 x y (.int .u64 (qAH .u64 (.ofNat n * .ofNat 256))) (.int .u64 (qAH .u64 (.ofNat b)))=some (.int .u64 (qAH .u64 (qAH .u64 (.ofNat n * .ofNat 256)+qAH .u64 (.ofNat b)))):=by kernel_rfl
 rw[ad1 hn hb] at e;exact qAF e
theorem qYH {n b:Nat} (hn:n<72057594037927936) (hb:b<256):still S (qAD EZ .add 24 x y (.int .u64 (qAH .u64 (.ofNat 256 * .ofNat n))) (.int .u64 (qAH .u64 (.ofNat b))))=some (.int .u64 (.ofNat (n*256+b)),S):=by
 rw[Int.mul_comm];exact adZ1 hn hb
end
def fw (b:Nat→Nat):Nat→Nat
 | 0=>0
 | k+1=>fw b k*256+b k
theorem qTa {b:Nat→Nat} (h:∀i,b i<256):∀k,fw b k<256 ^ k
 | 0=>by show 0<1;decide
 | k+1=>by
  have ih:=qTa h k;have:=h k;show fw b k*256+b k<256 ^ k*256;omega
section
variable {S:ASt} {q:CallT} {A:AV} {b:Nat→Nat}
theorem qPl (hq0:CallsOK Tryz.prog q) (ht:Tidy S) (hb:∀i,b i<256) (hq:q 131 [A] S=some (.agg (cl (fun j=>.ofNat (b j))),S)):qAE Tryz.prog 174 [A] S (.int .u64 (.ofNat (fw b 8)),S):=by
 have hw:∀j,j<8→fw b j<72057594037927936:=fun j hj=>Nat.lt_of_lt_of_le (qTa hb j) (by rw[show 72057594037927936=256 ^ 7 from rfl];exact Nat.pow_le_pow_right (by decide) (by omega));have o0:=Ov.nil ht;obtain⟨S1,e1,o1⟩:=o0.add (.cells (cl (fun j=>.ofNat 0)) true);obtain⟨S2,e2,o2⟩:=o1.stA (E:=EZ) (t:=190) (i:=0) (k:=S.next) (o:=0) (z:=32) (vs:=(cl (fun j=>.ofNat (b j)))) ([]) ((cl (fun j=>.ofNat 0))) ([]);refine exD Tryz.f174 cSh 22 [2] EZok (qAG hq0) (qCW ..) (Eq.mp (vcSh q A (S.next) b (fw b) S S1 S2 (Left EZ Tryz.f174 22 S (.int .u64 (.ofNat (fw b 8))))) ?_);exact⟨ca hq,o0.al e1,e2,o2.ld1 (i:=0) (cs:=(cl (fun j=>.ofNat (b j)))),(orZ0 (hb _)),o2.ld1 (i:=0) (cs:=(cl (fun j=>.ofNat (b j)))),qW2 (hw 1 (by omega)) (hb _),o2.ld1 (i:=0) (cs:=(cl (fun j=>.ofNat (b j)))),qW2 (hw 2 (by omega)) (hb _),o2.ld1 (i:=0) (cs:=(cl (fun j=>.ofNat (b j)))),qW2 (hw 3 (by omega)) (hb _),o2.ld1 (i:=0) (cs:=(cl (fun j=>.ofNat (b j)))),qW2 (hw 4 (by omega)) (hb _),o2.ld1 (i:=0) (cs:=(cl (fun j=>.ofNat (b j)))),qW2 (hw 5 (by omega)) (hb _),o2.ld1 (i:=0) (cs:=(cl (fun j=>.ofNat (b j)))),qW2 (hw 6 (by omega)) (hb _),o2.ld1 (i:=0) (cs:=(cl (fun j=>.ofNat (b j)))),qW2 (hw 7 (by omega)) (hb _),(Left.of (rs:=[.tmp 2]) o2 rfl (by kernel_rfl) rfl (qAV (by kernel_rfl) qA9) rfl)⟩
theorem qPk (hq0:CallsOK Tryz.prog q) (ht:Tidy S) (hb:∀i,b i<256) (hq:q 186 [A] S=some (.agg (cl (fun j=>.ofNat (b j))),S)):qAE Tryz.prog 157 [A] S (.int .u64 (.ofNat (fw b 8)),S):=by
 have hw:∀j,j<8→fw b j<72057594037927936:=fun j hj=>Nat.lt_of_lt_of_le (qTa hb j) (by rw[show 72057594037927936=256 ^ 7 from rfl];exact Nat.pow_le_pow_right (by decide) (by omega));have o0:=Ov.nil ht;obtain⟨S1,e1,o1⟩:=o0.add (.cells (cl (fun j=>.ofNat 0)) true);obtain⟨S2,e2,o2⟩:=o1.stA (E:=EZ) (t:=190) (i:=0) (k:=S.next) (o:=0) (z:=32) (vs:=(cl (fun j=>.ofNat (b j)))) ([]) ((cl (fun j=>.ofNat 0))) ([]);refine exD Tryz.f157 cSr 20 [2] EZok (qAG hq0) (qCW ..) (Eq.mp (vcSr q A (S.next) b (fw b) S S1 S2 (Left EZ Tryz.f157 20 S (.int .u64 (.ofNat (fw b 8))))) ?_);exact⟨ca hq,o0.al e1,e2,o2.ld1 (i:=0) (cs:=(cl (fun j=>.ofNat (b j)))),(adZ0 (hb _)),o2.ld1 (i:=0) (cs:=(cl (fun j=>.ofNat (b j)))),qYH (hw 1 (by omega)) (hb _),o2.ld1 (i:=0) (cs:=(cl (fun j=>.ofNat (b j)))),qYH (hw 2 (by omega)) (hb _),o2.ld1 (i:=0) (cs:=(cl (fun j=>.ofNat (b j)))),qYH (hw 3 (by omega)) (hb _),o2.ld1 (i:=0) (cs:=(cl (fun j=>.ofNat (b j)))),qYH (hw 4 (by omega)) (hb _),o2.ld1 (i:=0) (cs:=(cl (fun j=>.ofNat (b j)))),qYH (hw 5 (by omega)) (hb _),o2.ld1 (i:=0) (cs:=(cl (fun j=>.ofNat (b j)))),qYH (hw 6 (by omega)) (hb _),o2.ld1 (i:=0) (cs:=(cl (fun j=>.ofNat (b j)))),qYH (hw 7 (by omega)) (hb _),(Left.of (rs:=[.tmp 2]) o2 rfl (by kernel_rfl) rfl (qAV (by kernel_rfl) qA9) rfl)⟩
end
theorem qP9 {B:Prot} {w0:World} {ι:Go.Ax.Ren} {S:ASt} {w:World} (h:SR B w0 ι S w):Tidy S:=fun k hk=>by
 cases hg:S.h.get k with
 | none=>rfl
 | some a=>have:=h.hdom k a hg;omega
def wl (w:Int):List Int:=[qAH .u8 (qCV w 24),qAH .u8 (qCV w 16),qAH .u8 (qCV w 8),qAH .u8 (qCV w 0)]
def qSV (s:S8):List Int:=wl s.a++(wl s.b++(wl s.c++(wl s.d++(wl s.e++(wl s.f++(wl s.g++wl s.h))))))
def hx (s:S8) (i:Nat):Int:=(qSV s).getD i 0
theorem qW1 (s:S8):qOj s=.agg (cl (hx s)):=rfl
def By (x:Int):Prop:=∃m:Nat,m<256∧x=.ofNat m
theorem ByW (z:Int):By (qAH .u8 z):=by
 have hb:qB5 z (big .u8)<256:=by
  show qB5 z 256<256;cases z with
  | ofNat m=>exact Nat.mod_lt _ (by omega)
  | negSucc m=>exact Nat.lt_of_le_of_lt (Nat.sub_le _ _) (by omega)
 refine⟨qB5 z (big .u8),hb,?_⟩;unfold qAH;have hh:Nat.blt (qB5 z (big .u8)) (half .u8)=true:=qFa hb;simp only[hh,cond_true]
theorem q1Q (w:Int):∀z,z∈wl w→By z:=fun z hz=>by
 simp only[wl,List.mem_cons,List.not_mem_nil,or_false] at hz;rcases hz with rfl | rfl | rfl | rfl<;>exact ByW _
theorem qW0 (s:S8):∀z,z∈qSV s→By z:=fun z hz=>by
 simp only[qSV,List.mem_append] at hz;rcases hz with h | h | h | h | h | h | h | h<;>exact q1Q _ z h
theorem q2f (s:S8) {i:Nat} (h:i<32):By (hx s i):=by
 have hl:(qSV s).length=32:=rfl;unfold hx;rw[List.getD_eq_getElem?_getD,List.getElem?_eq_getElem (by rw[hl];exact h)];exact qW0 s _ (List.getElem_mem _)
noncomputable def s8 (l:List Nat):S8:=qMn l
noncomputable def HH (l:List Nat) (j:Nat):Nat:=(hx (s8 l) j).toNat % 256
theorem q0l (l:List Nat):qOj (s8 l)=.agg (cl fun j=>.ofNat (HH l j)):=by
 rw[qW1];refine congrArg AV.agg ?_;unfold cl;refine List.map_congr_left fun i hi=>?_;obtain⟨m,hm,e⟩:=q2f (s8 l) (List.mem_range.1 hi);show AV.int .u8 (hx (s8 l) i)=.int .u8 (.ofNat ((hx (s8 l) i).toNat % 256));rw[e];show AV.int .u8 (.ofNat m)=.int .u8 (.ofNat (m % 256));rw[Nat.mod_eq_of_lt hm]
theorem qFx:∀{a b:List Nat},a.map qAn=b.map qAn→a=b
 | [],[],_=>rfl
 | [],_::_,h=>by simp at h
 | _::_,[],h=>by simp at h
 | x::a,y::b,h=>by
  simp only[List.map_cons,List.cons.injEq] at h;have h1:x=y:=by have:=h.1;simp only[qAn,AV.int.injEq,true_and] at this;exact Int.ofNat.inj this
  rw[h1,qFx h.2]
noncomputable def qS:CallT:=orC (sumSum 131 [248]) (qPf 186 [248])
theorem bN:∀l:List Nat,qEJ (l.map qAn)=some l
 | []=>rfl
 | a::l=>by
  show (match qEJ (l.map qAn) with | some l=>some (a::l) | none=>none)=_;rw[bN l]
theorem qDb:Sums qS HH :=
 ⟨orC_ok shaPart.sum_ok shaPart.sumR_ok,fun l i=>Nat.mod_lt _ (by decide),fun {l S i cs rw c} hl hb hg ht=>by
   refine qAo ?_;rw[←q0l];unfold sumSum;simp only[Nat.beq_refl,cond_true,show qCY 248 [248]=true from rfl,hg,ht,bN,S8.forceS_eq,qKF];rfl,
  fun {l S i cs rw c} hl hb hg ht=>by
   refine qAW rfl ?_;rw[←q0l];have h8:(l.all fun x=>Nat.blt x 256)=true:=List.all_eq_true.2 fun x hx=>qFa (hb x hx);unfold qPf;simp only[Nat.beq_refl,cond_true,show qCY 248 [248]=true from rfl,hg,ht,bN,h8];rfl⟩
noncomputable def XX (l:List Nat):Nat:=fw (HH l) 8
def RowL (st:ASt) (i:Nat) (l:List Nat):Prop:=l.length=248∧(∀x,x∈l→x<256)∧∃cs rw,st.h.get i=some (.cells cs rw)∧qAy cs 0 248=some (l.map qAn)
noncomputable def qT:CallT:=fun f args st=>open Classical in match args with
 | [.slice (some (i,0)) 248 _]=>if h:(f=174∨f=157)∧∃l,RowL st i l then some (.int .u64 (.ofNat (XX h.2.choose)),st) else none
 | _=>none
theorem qWY {S:ASt} {i f:Nat} {l:List Nat} {c:Cap} (hf:f=174∨f=157) (h:RowL S i l):qT f [.slice (some (i,0)) 248 c] S=some (.int .u64 (.ofNat (XX l)),S):=by
 have hh:(f=174∨f=157)∧∃l,RowL S i l:=⟨hf,l,h⟩;have hv:hh.2.choose=l:=by
  obtain⟨_,_,cs,rw,h1,h2⟩:=hh.2.choose_spec;obtain⟨_,_,cs',rw',h3,h4⟩:=h;rw[h3] at h1;cases h1;rw[h4] at h2;exact qFx (Option.some.inj h2).symm
 unfold qT;simp only[dif_pos hh,hv]
theorem q2I:CallsOK Tryz.prog qT:=fun B w0 f args st r hr ι w args' hsr hv=>by
 unfold qT at hr
 split at hr
 ·rename_i i c
  split at hr
  ·rename_i hh;obtain⟨l,hl⟩:=hh.2;have e:=qWY (c:=c) hh.1 hl;unfold qT at e;simp only[dif_pos hh] at e;have e2:=Option.some.inj (hr.symm.trans e);subst e2;obtain⟨h1,h2,cs,rw,h3,h4⟩:=hl;rcases hh.1 with rfl | rfl
   ·exact qPl qDb.ok (qP9 hsr) (fun i=>qDb.lt l i) (qDb.own h1 h2 h3 h4) B w0 ι w args' hsr hv
   ·exact qPk qDb.ok (qP9 hsr) (fun i=>qDb.lt l i) (qDb.ref h1 h2 h3 h4) B w0 ι w args' hsr hv
  ·cases hr
 ·cases hr
theorem qD1:Shorts qT XX :=
 ⟨q2I,fun l=>by
  have:=qTa (qDb.lt l) 8;exact this,fun h1 h2 h3 h4=>qWY (.inl rfl) ⟨h1,h2,_,_,h3,h4⟩,fun h1 h2 h3 h4=>qWY (.inr rfl) ⟨h1,h2,_,_,h3,h4⟩⟩
end Go.Proofs.YtiafochainjglaaGreatDoor.drp.sh
end
namespace Go.Proofs.YtiafochainjglaaGreatDoor.drp
open Go Go.Ax Go.Proofs
set_option linter.unusedVariables false
namespace my
open cd cd2 cd3 cd4 cd5 cd9 oo
section
variable {Y:ASt} {a b:Nat} {x y:Operand}
end
section
variable {H:List Nat→Nat→Nat} {X:List Nat→Nat} {b:Nat→List Nat} {k:Nat}
theorem q0p {B:List Nat} (h:iS H B=true):qDa (sX H B 0) (sX H B 1) (sX H B 2)=true:=by
 have h':=h;unfold iS at h;rw[Bool.and_eq_true] at h;unfold sX;rw[h'];exact h.1
theorem q0k (h:LSe H b=0):qDa (LSx H b 0) (LSx H b 1) (LSx H b 2)=true:=by
 unfold LSe nS at h;unfold LSx nS;cases h0:iS H (b 0)<;>cases h1:iS H (b 1)
 ·rw[h0,h1] at h;cases h
 ·exact q0p h1
 ·exact q0p h0
 ·cases h2:decide (sX H (b 0) 5<sX H (b 1) 5)
  ·exact q0p h0
  ·exact q0p h1
theorem qMm {x:Nat→Nat} {c:Bool} (h:qDa (x 0) (x 1) (x 2)=true) (S:ASt):qAE Tryz.prog 76 [.agg (sL x c)] S (.bool true,S)∧qAE Tryz.prog 48 [.agg (sL x c)] S (.bool true,S):=by
 rw[←h];exact⟨qZe S,mayR S⟩
end
end my
section
open dsk
def byL (b:List Nat):Prop:=∀j,b.getD j 0<256
theorem qEp:byL []:=fun j=>by simp
structure Dv (base:Nat) (S0 S:ASt) (d l m n c:Nat) (las:List (List Nat)) (es:List En):Prop where
 dk:∃ck,Disk S d l m las es ck
 llo:base≤l
 mlo:base≤m
 dlo:base≤d
 len:las.length=n
 rlo:∀e,e∈es→base≤e.r
 few:∀i,(qDo es i).length≤c
 lby:∀b,b∈las→byL b
 vby:∀i b,b∈qDo es i→byL b
 tidy:Tidy S
 next:base≤S.next
 same:∀k,k<base→S.h.get k=S0.h.get k
theorem qRb {las:List (List Nat)} {es:List En} (h1:∀b,b∈las→byL b) (h2:∀i b,b∈qDo es i→byL b) (i:Nat):byL (qDN las es i):=by
 unfold qDN;cases h:(qDo es i).getLast? with
 | some b=>exact h2 i b (List.mem_of_getLast? h)
 | none =>
  show byL (las.getD i []);rw[List.getD_eq_getElem?_getD];cases h3:las[i]? with
  | some b=>exact h1 b (List.mem_of_getElem? h3)
  | none=>exact qEp
theorem qOv {es:List En} (hk:(es.map (·.k)).Nodup) {e:En} (he:e∈es):qDo es e.k=e.vs:=by
 obtain⟨A,e',C,hes,hek,hA,hC,hv⟩:=qDp hk ⟨e,he,rfl⟩;rw[hes] at he;rcases List.mem_append.1 he with h | h
 ·exact absurd rfl (hA e h)
 ·rcases List.mem_cons.1 h with h | h
  ·rw[hv,←h]
  ·exact absurd rfl (hC e h)
section
variable {base d l m n c:Nat} {S0 S:ASt} {las:List (List Nat)} {es:List En}
theorem Dv.dsk (h:Dv base S0 S d l m n c las es) (hc:c<1000000):Dsk S d las es:=by
 obtain⟨ck,hd⟩:=h.dk;exact⟨⟨l,m,ck,hd⟩,h.tidy,fun i=>Nat.lt_of_le_of_lt (h.few i) hc,fun i=>qRb h.lby h.vby i⟩
theorem Dv.keep {S':ASt} (h:Dv base S0 S d l m n c las es) (hn:S.next≤S'.next) (ht:Tidy S') (hk:∀k,k<S.next→S'.h.get k=S.h.get k):Dv base S0 S' d l m n c las es:=by
 obtain⟨ck,hd⟩:=h.dk;have hl:=h.llo;have hm:=h.mlo;exact⟨⟨ck,hd.keep h.tidy hk⟩,hl,hm,h.dlo,h.len,h.rlo,h.few,h.lby,h.vby,ht,Nat.le_trans h.next hn,fun k hb=>(hk k (Nat.lt_of_lt_of_le hb h.next)).trans (h.same k hb)⟩
theorem Dv.new (ht:Tidy S) (h1:1≤n) (h2:n≤1000):∃S' d l m,qAE Tryz.prog 13 [dsk.nI n] S (.tuple [pO d,dsk.nI 0],S')∧Dv S.next S S' d l m n 0 (List.replicate n []) []:=by
 obtain⟨S',d,l,m,hcall,hd,ht',hn',hdl,hl,hm,hk⟩:=qZ8 ht h1 h2;exact⟨S',d,l,m,hcall,⟨0,hd⟩,hl,hm,hdl,by simp,fun e he=>(by cases he),fun i=>by simp[qDo],fun b hb=>by rw[(List.mem_replicate.1 hb).2];exact qEp,fun i b hb=>by simp[qDo] at hb,ht',hn',hk⟩
theorem Dv.mono {c':Nat} (h:Dv base S0 S d l m n c las es) (hc:c≤c'):Dv base S0 S d l m n c' las es :=
 ⟨h.dk,h.llo,h.mlo,h.dlo,h.len,h.rlo,fun i=>Nat.le_trans (h.few i) hc,h.lby,h.vby,h.tidy,h.next,h.same⟩
end
def DV (base:Nat) (S0:ASt) (d l m n:Nat) (S:ASt) (c:Nat):Prop:=∃las es,Dv base S0 S d l m n c las es
end
namespace fm
noncomputable def q2n:List (Nat×Func):=[(14,Tryz.f14),(52,Tryz.f52),(78,Tryz.f78),(120,Tryz.f120),(81,Tryz.f81),(113,Tryz.f113),(114,Tryz.f114),(140,Tryz.f140),(115,Tryz.f115),(84,Tryz.f84),(142,Tryz.f142),(116,Tryz.f116),(117,Tryz.f117),(147,Tryz.f147),(118,Tryz.f118),(119,Tryz.f119)]
noncomputable def EF:Env:=envEx Tryz.prog [0,3,4,5,23,24,25,26,27,28,29,30,31,32,33,37,43,49,54,73,103,104,111,143,144,169] q2n []
def lnA:List AV:=[.int .u64 (.ofNat 7),.int .u64 (.ofNat 0),.int .u64 (.ofNat 0),.int .u64 (.ofNat 0)]
def clL (k0 k1 k2 k4:Nat):List AV:=[.clos 113 [.ptr (some (k0,0))],.clos 115 [.ptr (some (k4,0)),.ptr (some (k0,0))],.clos 116 [.ptr (some (k0,0))],.clos 118 [.ptr (some (k0,0)),.ptr (some (k1,0)),.ptr (some (k2,0))]]
noncomputable abbrev qBO (a:CallT) (b:Nat):=M EF (drawA EF) (qA0 [13,73,19,40,60,61,62,76] a) b
noncomputable abbrev qAq (a:Nat):=AV.int .i64 (.ofNat a)
noncomputable abbrev qB2 (a:Nat):=AV.int .i64 (.ofNat (9+a))
noncomputable abbrev qCq (a b c:Nat):=qAQ EF a (AV.ptr (some (b,c)))
noncomputable abbrev qIm (a b:Nat):List AV:=[.ptr (some (a,0)),.int .i64 (.ofNat b),.agg (bl [])]
noncomputable abbrev qHt:=Operand.const (Value.int .i64 0)
noncomputable abbrev qUx (a:Nat):List AV:=[.agg [.int .i64 (.ofNat 4),.bool false,.int .u64 (.ofNat 7),.int .u64 (.ofNat 0),.int .u64 (.ofNat 0),.int .u64 (.ofNat 0),.int .u64 (.ofNat a)]]
noncomputable abbrev qKs:=Operand.const (Value.int .i64 1)
noncomputable abbrev qGe (a:ASt) (b c d e:Nat):=ASt.add a (AO.cells (clL b c d e) true)
noncomputable abbrev qNX:=Operand.const (Value.int .i64 64)
theorem vcFm (q:CallT) (d k k0 k1 k2 k3 k4 k5 k6 k7 k8:Nat) (MB KB SB:List Nat) (S S1 S2 S3 S4 S5 S6 S7 S8 S9 S10 S11 S12 S13 S14 S15 S16 S17 S18 S19 S20 S21 S22 S23 S24 S25 S26:ASt) (Q:AV×ASt→Prop) :
 Vq ((TM EF (qA0 [13,73,19,40,60,61,62,76] q) [(14,⟨[6,9,13,14],[23],[],[]⟩),(52,⟨[4,6,7,15,21,22,24,10,40,4095,4094],[17,28,42],[],[]⟩),(78,⟨[7,8,12,15,18],[11,17],[],[]⟩),(120,⟨[4,7,10],[],[],[]⟩),(81,⟨[5,8,12],[],[],[]⟩),(113,⟨[2],[3],[],[]⟩),(114,⟨[26,32],[13],[],[]⟩),(140,⟨[9,10,25,27,28],[],[],[]⟩),(115,⟨[3,4],[5],[],[]⟩),(84,⟨[14,15,23,24,31,32,33,38],[10],[],[]⟩),(142,⟨[9,10],[],[],[]⟩),(116,⟨[2],[3],[],[]⟩),(117,⟨[10,11,18,19,20,26,31,6,36,4095],[37],[],[]⟩),(147,⟨[5,10,11,16],[],[],[]⟩),(118,⟨[4,5,6],[7],[],[]⟩),(119,⟨[4,13,15,7,20,21,27,28,32,37,38,43,4095],[],[],[]⟩)] fl0 80).call 14 [.int .i64 (.ofNat k)] S) Q (as_ S (qAD EF .lss 3 (.tmp 5) qKs (qAq k) (qAq 1)) (.bool false) (as_ S (qAD EF .gtr 3 (.tmp 8) qNX (qAq k) (qAq 64)) (.bool false) (as_ S (qAD EF .add 3 (.const (.int .i64 9)) (.tmp 12) (qAq 9) (qAq k)) (qB2 k) (aa ((qBO q 75).call 13 [.int .i64 (.ofNat (9+k))] S) (.tuple [.ptr (some (d,0)),.int .i64 (.ofNat 0)],S1) (aa (qFi (.ptr (some (d,0))) S1) (.ptr (some (k0,0)),S2) (aa (qFi (.agg lnA) S2) (.ptr (some (k1,0)),S3) (aa (qFi (qAq 4) S3) (.ptr (some (k2,0)),S4) (al (qCq 43 k0 0) S4 (.ptr (some (d,0))) (al ((qBO q 62).call 73 [.ptr (some (d,0))]) S4 (qB2 k) (as_ S4 (qAD EF .eql 3 (.tmp 7) qHt (qB2 k) (qAq 0)) (.bool false) (as_ S4 (qAD EF .lss 3 (.tmp 3) qKs (qAq k) (qAq 1)) (.bool false) (as_ S4 (qAD EF .gtr 3 (.tmp 6) qNX (qAq k) (qAq 64)) (.bool false) (as_ S4 (qAD EF .add 3 (.const (.int .i64 9)) (.tmp 9) (qAq 9) (qAq k)) (qB2 k) (as_ S4 (qAD EF .eql 3 (.tmp 11) qHt (qB2 k) (qAq 0)) (.bool false) (al ((qBO q 60).call 73 [.ptr (some (d,0))]) S4 (qB2 k) (as_ S4 (qAD EF .lss 3 (.tmp 3) qKs (qAq k) (qAq 1)) (.bool false) (as_ S4 (qAD EF .gtr 3 (.tmp 6) qNX (qAq k) (qAq 64)) (.bool false) (as_ S4 (qAD EF .add 3 (.const (.int .i64 9)) (.tmp 9) (qAq 9) (qAq k)) (qB2 k) (as_ S4 (qAD EF .neq 3 (.tmp 15) (.tmp 17) (qB2 k) (qB2 k)) (.bool false) (al (qCq 23 k2 0) S4 (qAq 4) (al (qCq 27 k1 0) S4 (.agg lnA) (al ((qBO q 67).call 76 (qUx 0)) S4 (.bool true) (as_ S4 (qAD EF .lss 3 (.tmp 4) qKs (qAq k) (qAq 1)) (.bool false) (as_ S4 (qAD EF .gtr 3 (.tmp 7) qNX (qAq k) (qAq 64)) (.bool false) (aa (qFi (.agg [.int .i64 (.ofNat k),.int .u64 (.ofNat 0)]) S4) (.ptr (some (k3,0)),S5) (aa (qAY EF 73 S5) (.ptr (some (k4,0)),S6) (aa (Option.map (fun s=>(qAC,s)) (qAL EF 73 (.ptr (some (k4,0))) (.ptr (some (k3,0))) S6)) (.tuple [],S7) (al (qAQ EF 49 (.ptr (some (S7.next,0)))) (qGe S7 k0 k1 k2 k4) (.clos 113 [.ptr (some (k0,0))]) (al (qCq 43 k0 0) (qGe S7 k0 k1 k2 k4) (.ptr (some (d,0))) (al ((qBO q 42).call 73 [.ptr (some (d,0))]) (qGe S7 k0 k1 k2 k4) (qB2 k) (as_ (qGe S7 k0 k1 k2 k4) (qAD EF .eql 3 (.tmp 9) qHt (qB2 k) (qAq 0)) (.bool false) (al ((qBO q 40).call 73 [.ptr (some (d,0))]) (qGe S7 k0 k1 k2 k4) (qB2 k) (as_ (qGe S7 k0 k1 k2 k4) (qAD EF .sub 3 (.tmp 25) (.tmp 26) (qB2 k) (qAq 4)) (.int .i64 (.ofNat (9+k - 4))) (as_ (qGe S7 k0 k1 k2 k4) (qAD EF .gtr 3 (.tmp 23) (.tmp 27) (qAq 5) (.int .i64 (.ofNat (9+k - 4)))) (.bool false) (aa ((qBO q 39).call 19 (qIm d 5) (qGe S7 k0 k1 k2 k4)) (.int .i64 (.ofNat 0),S8) (aa ((qBO q 39).call 19 (qIm d 6) S8) (.int .i64 (.ofNat 0),S9) (aa ((qBO q 39).call 19 (qIm d 7) S9) (.int .i64 (.ofNat 0),S10) (aa ((qBO q 39).call 19 (qIm d 8) S10) (.int .i64 (.ofNat 0),S11) (aa ((qBO q 47).call 40 [.ptr (some (d,0))] S11) (.int .i64 (.ofNat 0),S12) (al (qAQ EF 49 (.ptr (some (S7.next,1)))) S12 (.clos 115 [.ptr (some (k4,0)),.ptr (some (k0,0))]) (al (qCq 73 k4 0) S12 (.ptr (some (k3,0))) (al (qCq 43 k0 0) S12 (.ptr (some (d,0))) (al (qCq 3 k3 0) S12 (qAq k) (as_ S12 (qAD EF .gtr 3 (.tmp 9) qHt (qAq k) (qAq 0)) (.bool true) (al ((qBO q 47).call 73 [.ptr (some (d,0))]) S12 (qB2 k) (as_ S12 (qAD EF .eql 3 (.tmp 14) qHt (qB2 k) (qAq 0)) (.bool false) (al ((qBO q 45).call 73 [.ptr (some (d,0))]) S12 (qB2 k) (as_ S12 (qAD EF .geq 3 (.tmp 21) (.tmp 23) (qAq 4) (qB2 k)) (.bool false) (al (qCq 24 k3 1) S12 (.int .u64 (.ofNat 0)) (al ((qBO q 47).call 62 [.int .u64 (.ofNat 0)]) S12 (.agg (bl MB)) (aa ((qBO q 47).call 19 [.ptr (some (d,0)),.int .i64 (.ofNat 4),.agg (bl MB)] S12) (.int .i64 (.ofNat 0),S13) (aa ((qBO q 47).call 40 [.ptr (some (d,0))] S13) (.int .i64 (.ofNat 0),S14) (al (qAQ EF 49 (.ptr (some (S7.next,2)))) S14 (.clos 116 [.ptr (some (k0,0))]) (al (qCq 43 k0 0) S14 (.ptr (some (d,0))) (al ((qBO q 47).call 73 [.ptr (some (d,0))]) S14 (qB2 k) (as_ S14 (qAD EF .eql 3 (.tmp 10) qHt (qB2 k) (qAq 0)) (.bool false) (al ((qBO q 45).call 73 [.ptr (some (d,0))]) S14 (qB2 k) (as_ S14 (qAD EF .sub 3 (.tmp 18) qKs (qB2 k) (qAq 1)) (.int .i64 (.ofNat (9+k - 1))) (as_ S14 (qAD EF .geq 3 (.tmp 16) (.tmp 19) (qAq 2) (.int .i64 (.ofNat (9+k - 1)))) (.bool false) (aa ((qBO q 48).call 19 (qIm d 3) S14) (.int .i64 (.ofNat 0),S15) (al ((qBO q 44).call 61 [.agg [.int .u64 (.ofNat 0),.int .u64 (.ofNat 0),.int .u64 (.ofNat 0),.int .u64 (.ofNat 0),.int .u64 (.ofNat 0),.int .u64 (.ofNat 0),.int .u64 (.ofNat 0),.int .u64 (.ofNat 0),.int .u64 (.ofNat 0),.int .u64 (.ofNat 0),.int .u64 (.ofNat 0),.int .u64 (.ofNat 0),.int .u64 (.ofNat 0),.int .u64 (.ofNat 0),.int .u64 (.ofNat 0),.int .u64 (.ofNat 0),.int .u64 (.ofNat 0),.int .i64 (.ofNat 0),.int .i64 (.ofNat 0)],.int .u64 (.ofNat 1)]) S15 (.tuple [.agg (bl KB),.int .i64 (.ofNat 0)]) (aa (qAY EF 54 S15) (.ptr (some (k5,0)),S16) (aa (Option.map (fun s=>(qAC,s)) (qAL EF 54 (.ptr (some (k5,0))) (.agg (bl KB)) S16)) (.tuple [],S17) (al (qCq 54 k5 0) S17 (.agg (bl KB)) (aa (qFi (.agg (bl KB)) S17) (.ptr (some (k6,0)),S18) (al (qCq 54 k6 0) S18 (.agg (bl KB)) (aa ((qBO q 39).call 19 [.ptr (some (d,0)),.int .i64 (.ofNat 2),.agg (bl KB)] S18) (.int .i64 (.ofNat 0),S19) (aa ((qBO q 39).call 40 [.ptr (some (d,0))] S19) (.int .i64 (.ofNat 0),S20) (al (qAQ EF 49 (.ptr (some (S7.next,3)))) S20 (.clos 118 [.ptr (some (k0,0)),.ptr (some (k1,0)),.ptr (some (k2,0))]) (al (qCq 43 k0 0) S20 (.ptr (some (d,0))) (al (qCq 27 k1 0) S20 (.agg lnA) (al (qCq 23 k2 0) S20 (qAq 4) (aa (qFi (.agg lnA) S20) (.ptr (some (k7,0)),S21) (al (qCq 27 k7 0) S21 (.agg lnA) (al ((qBO q 49).call 60 (qUx 1)) S21 (.tuple [.agg (bl SB),.int .i64 (.ofNat 0)]) (aa (qAY EF 54 S21) (.ptr (some (k8,0)),S22) (aa (Option.map (fun s=>(qAC,s)) (qAL EF 54 (.ptr (some (k8,0))) (.agg (bl SB)) S22)) (.tuple [],S23) (al ((qBO q 46).call 73 [.ptr (some (d,0))]) S23 (qB2 k) (as_ S23 (qAD EF .eql 3 (.tmp 20) qHt (qB2 k) (qAq 0)) (.bool false) (al ((qBO q 44).call 73 [.ptr (some (d,0))]) S23 (qB2 k) (as_ S23 (qAD EF .lss 3 (.tmp 27) (.const (.int .i64 2)) (qB2 k) (qAq 2)) (.bool false) (aa ((qBO q 46).call 19 (qIm d 1) S23) (.int .i64 (.ofNat 0),S24) (al (qCq 54 k8 0) S24 (.agg (bl SB)) (aa ((qBO q 45).call 19 [.ptr (some (d,0)),.int .i64 (.ofNat 0),.agg (bl SB)] S24) (.int .i64 (.ofNat 0),S25) (aa ((qBO q 45).call 40 [.ptr (some (d,0))] S25) (.int .i64 (.ofNat 0),S26) (aq (Q (.ptr (some (d,0)),S26)))))))))))))))))))))))))))))))))))))))))))))))))))))))))))))))))))))))))))))))))))))))):=vq (by kernel_rfl)
end fm
section
open dsk
section
variable {base d l m n c:Nat} {S0 X:ASt} {L:List (Nat×AO)}
structure Ow (l m:Nat) (X:ASt) (L:List (Nat×AO)):Prop where
 loc:∀(i:Nat) (p:Nat×AO),L[i]? = some p→X.h.get p.1=some p.2∧p.1≠l∧p.1≠m
theorem Ow.nil:Ow l m X []:=⟨fun i p h=>by simp at h⟩
theorem DV.keep {X':ASt} (D:DV base S0 d l m n X c) (hn:X.next≤X'.next) (ht:Tidy X') (hk:∀k,k<X.next→X'.h.get k=X.h.get k):DV base S0 d l m n X' c:=by
 obtain⟨las,es,h⟩:=D;exact⟨las,es,h.keep hn ht hk⟩
theorem DV.tidy (D:DV base S0 d l m n X c):Tidy X:=by obtain⟨las,es,h⟩:=D;exact h.tidy
theorem DV.lm (D:DV base S0 d l m n X c):l<X.next∧m<X.next:=by
 obtain⟨las,es,h⟩:=D;obtain⟨ck,hd⟩:=h.dk;exact⟨h.tidy.lt hd.hl,h.tidy.lt hd.hm⟩
theorem Ow.box (o:Ow l m X L) (D:DV base S0 d l m n X c) (a:AO):∃X',X'=X.add a∧Ow l m X' (L++[(X.next,a)])∧DV base S0 d l m n X' c:=by
 have hlm:=D.lm;refine⟨_,rfl,⟨fun i p hi=>?_⟩,D.keep (by rw[qBe];omega) D.tidy.add (fun k hk=>qAj (by omega))⟩;rcases qFe hi with⟨_,hp⟩ | ⟨_,rfl⟩
 ·obtain⟨h1,h2,h3⟩:=o.loc i p hp;have:=D.tidy.lt h1;exact⟨by rw[qAj (by omega)];exact h1,h2,h3⟩
 ·exact⟨qBM,by simp only;omega,by simp only;omega⟩
theorem Ow.ld1 {E:Env} {t:TypeId} {i k j:Nat} {cs:List AV} {v:AV} (o:Ow l m X L) (hi:L[i]? = some (k,.cells cs true):=by kernel_rfl) (hT:qLO E t=true:=by kernel_rfl) (hv:cs[j]? = some v:=by kernel_rfl):qAQ E t (.ptr (some (k,j))) X=some (v,X):=qAZ hT (o.loc _ _ hi).1 hv
theorem Ow.ldA {E:Env} {t:TypeId} {i k j z:Nat} {cs vs:List AV} (o:Ow l m X L) (hi:L[i]? = some (k,.cells cs true):=by kernel_rfl) (hT:q0h E t=some z:=by kernel_rfl) (hv:qAy cs j z=some vs:=by kernel_rfl):qAQ E t (.ptr (some (k,j))) X=some (.agg vs,X):=qAp hT (o.loc _ _ hi).1 hv
end
noncomputable def dvC (base:Nat) (S0:ASt) (d l m n:Nat):CallT:=fun f args st=>open Classical in if f=73∧args=[.ptr (some (d,0))]∧∃c,DV base S0 d l m n st c∧c<1000000 then some (.int .i64 (.ofNat n),st) else none
theorem q0H {base:Nat} {S0:ASt} {d l m n:Nat}:CallsOK Tryz.prog (dvC base S0 d l m n):=fun B w0 f args st r hr ι w args' hsr hv=>by
 unfold dvC at hr
 split at hr
 ·rename_i hh;obtain⟨rfl,rfl,c,⟨las,es,h⟩,hc⟩:=hh;simp only[qz1] at hr;subst hr;have:=qKM (h.dsk hc);rw[h.len] at this;exact this B w0 ι w args' hsr hv
 ·cases hr
theorem q0I {base:Nat} {S0 X:ASt} {d l m n c:Nat} (D:DV base S0 d l m n X c) (hc:c<1000000):dvC base S0 d l m n 73 [.ptr (some (d,0))] X=some (.int .i64 (.ofNat n),X):=by unfold dvC;rw[if_pos ⟨rfl,rfl,c,D,hc⟩]
theorem qNm {base:Nat} {S0 X:ASt} {d l m n f:Nat} {args:List AV} (h:f≠73):dvC base S0 d l m n f args X=none:=by unfold dvC;rw[if_neg (fun x=>h x.1)]
noncomputable def qGb (k:Nat) (ar:List AV) (S:ASt) (r:AV×ASt):CallT:=fun f args st=>open Classical in if f=k∧args=ar∧st=S then some r else none
theorem qAJ {k:Nat} {ar:List AV} {S:ASt} {r:AV×ASt} (h:qAE Tryz.prog k ar S r):CallsOK Tryz.prog (qGb k ar S r):=fun B w0 f args st r' hr ι w args' hsr hv=>by
 unfold qGb at hr
 split at hr
 ·rename_i hh;obtain⟨rfl,rfl,rfl⟩:=hh;simp only[qz1] at hr;subst hr;exact h B w0 ι w args' hsr hv
 ·cases hr
theorem qA6 {k:Nat} {ar:List AV} {S:ASt} {r:AV×ASt}:qGb k ar S r k ar S=some r:=by unfold qGb;rw[if_pos ⟨rfl,rfl,rfl⟩]
theorem qDG {k f:Nat} {ar args:List AV} {S X:ASt} {r:AV×ASt} (h:f≠k):qGb k ar S r f args X=none:=by unfold qGb;rw[if_neg (fun x=>h x.1)]
theorem qGM {H:List Nat→Nat→Nat} (hH:∀l i,H l i<256) {l:List Nat} (h:∀x,x∈l→x<256):byL (cd.qAm H l):=fun j=>by
 have hm:∀x,x∈cd.qAm H l→x<256:=fun x hx=>by
  unfold cd.qAm at hx;rcases List.mem_append.1 hx with hx | hx
  ·exact cd.qGt h x hx
  ·simp only[cd.qIu,List.mem_cons,List.not_mem_nil,or_false] at hx;rcases hx with rfl | rfl | rfl | rfl | rfl | rfl | rfl | rfl<;>exact hH _ _
 rw[List.getD_eq_getElem?_getD];cases h3:(cd.qAm H l)[j]? with
 | some b=>exact hm b (List.mem_of_getElem? h3)
 | none=>show 0<256;decide
theorem qLv (X:List Nat→Nat) (n g t h:Nat) (ys:Nat→Nat):byL (cd9.qQE X n g t h ys):=fun j=>by
 have hm:∀x,x∈cd9.qQE X n g t h ys→x<256:=fun x hx=>by
  unfold cd9.qQE at hx;rcases List.mem_append.1 hx with hx | hx
  ·exact cd.qGt (cd2.qQC n g t h ys) x hx
  ·exact cd.qEq _ x hx
 rw[List.getD_eq_getElem?_getD];cases h3:(cd9.qQE X n g t h ys)[j]? with
 | some b=>exact hm b (List.mem_of_getElem? h3)
 | none=>show 0<256;decide
end
namespace fm
open cd (qAm qFh qGI qGJ qYb)
open cd9 (qLu qQE qO5 qCd qAi qAc qA8)
open cd2 (qKg UK)
open cd3 cd4 cd5 sh dsk
theorem qYd:Env.Ok Tryz.prog EF:=envEx_ok (xs:=[]) ⟨⟨Tryz.func14,Tryz.call14⟩,⟨Tryz.func52,Tryz.call52⟩,⟨Tryz.func78,Tryz.call78⟩,⟨Tryz.func120,Tryz.call120⟩,⟨Tryz.func81,Tryz.call81⟩,⟨Tryz.func113,Tryz.call113⟩,⟨Tryz.func114,Tryz.call114⟩,⟨Tryz.func140,Tryz.call140⟩,⟨Tryz.func115,Tryz.call115⟩,⟨Tryz.func84,Tryz.call84⟩,⟨Tryz.func142,Tryz.call142⟩,⟨Tryz.func116,Tryz.call116⟩,⟨Tryz.func117,Tryz.call117⟩,⟨Tryz.func147,Tryz.call147⟩,⟨Tryz.func118,Tryz.call118⟩,⟨Tryz.func119,Tryz.call119⟩,trivial⟩ trivial (by kernel_rfl)
section
variable {Y:ASt} {a b:Nat} {x y:Operand}
theorem lssG:still Y (qAD EF .lss 3 x y (.int .i64 (.ofNat a)) (.int .i64 (.ofNat b)))=some (.bool (decide (a<b)),Y):=by
 have e:qAD EF .lss 3 x y (.int .i64 (.ofNat a)) (.int .i64 (.ofNat b))=some (.bool (ltF (.ofNat a) (.ofNat b))):=by kernel_rfl
 rw[qBN] at e;exact qAF e
theorem q2j:still Y (qAD EF .gtr 3 x y (.int .i64 (.ofNat a)) (.int .i64 (.ofNat b)))=some (.bool (decide (b<a)),Y):=by
 have e:qAD EF .gtr 3 x y (.int .i64 (.ofNat a)) (.int .i64 (.ofNat b))=some (.bool (ltF (.ofNat b) (.ofNat a))):=by kernel_rfl
 rw[qBN] at e;exact qAF e
theorem geqG:still Y (qAD EF .geq 3 x y (.int .i64 (.ofNat a)) (.int .i64 (.ofNat b)))=some (.bool (!decide (a<b)),Y):=by
 have e:qAD EF .geq 3 x y (.int .i64 (.ofNat a)) (.int .i64 (.ofNat b))=some (.bool (!ltF (.ofNat a) (.ofNat b))):=by kernel_rfl
 rw[qBN] at e;exact qAF e
theorem q1C (h:1≤a):still Y (qAD EF .lss 3 x y (.int .i64 (.ofNat a)) (.int .i64 (.ofNat 1)))=some (.bool false,Y):=by rw[lssG,decide_eq_false (by omega)]
theorem q1F (h:a≤64):still Y (qAD EF .gtr 3 x y (.int .i64 (.ofNat a)) (.int .i64 (.ofNat 64)))=some (.bool false,Y):=by rw[q2j,decide_eq_false (by omega)]
theorem gtrF (h:a≤b):still Y (qAD EF .gtr 3 x y (.int .i64 (.ofNat a)) (.int .i64 (.ofNat b)))=some (.bool false,Y):=by rw[q2j,decide_eq_false (by omega)]
theorem gtrT (h:b<a):still Y (qAD EF .gtr 3 x y (.int .i64 (.ofNat a)) (.int .i64 (.ofNat b)))=some (.bool true,Y):=by rw[q2j,decide_eq_true (by omega)]
theorem geqE (h:a<b):still Y (qAD EF .geq 3 x y (.int .i64 (.ofNat a)) (.int .i64 (.ofNat b)))=some (.bool false,Y):=by rw[geqG,decide_eq_true h];rfl
theorem q2Z (h:b≤a):still Y (qAD EF .lss 3 x y (.int .i64 (.ofNat a)) (.int .i64 (.ofNat b)))=some (.bool false,Y):=by rw[lssG,decide_eq_false (by omega)]
theorem eqE (h:a≠b):still Y (qAD EF .eql 3 x y (.int .i64 (.ofNat a)) (.int .i64 (.ofNat b)))=some (.bool false,Y):=by
 have e:qAD EF .eql 3 x y (.int .i64 (.ofNat a)) (.int .i64 (.ofNat b))=some (.bool (eqF (.ofNat a) (.ofNat b))):=by kernel_rfl
 rw[oo.qIP,decide_eq_false h] at e;exact qAF e
theorem neqE:still Y (qAD EF .neq 3 x y (.int .i64 (.ofNat a)) (.int .i64 (.ofNat a)))=some (.bool false,Y):=by
 have e:qAD EF .neq 3 x y (.int .i64 (.ofNat a)) (.int .i64 (.ofNat a))=some (.bool (!eqF (.ofNat a) (.ofNat a))):=by kernel_rfl
 rw[oo.qIP,decide_eq_true rfl] at e;exact qAF e
theorem addE (h:a+b<1000000):still Y (qAD EF .add 3 x y (.int .i64 (.ofNat a)) (.int .i64 (.ofNat b)))=some (.int .i64 (.ofNat (a+b)),Y):=by
 have e:qAD EF .add 3 x y (.int .i64 (.ofNat a)) (.int .i64 (.ofNat b))=some (.int .i64 (qAH .i64 (.ofNat a+.ofNat b))):=by kernel_rfl
 rw[show (Int.ofNat a+Int.ofNat b)=Int.ofNat (a+b) from rfl,qBW (by omega)] at e;exact qAF e
theorem subE (h:b≤a) (h2:a<1000000):still Y (qAD EF .sub 3 x y (.int .i64 (.ofNat a)) (.int .i64 (.ofNat b)))=some (.int .i64 (.ofNat (a - b)),Y):=by
 have e:qAD EF .sub 3 x y (.int .i64 (.ofNat a)) (.int .i64 (.ofNat b))=some (.int .i64 (qAH .i64 (.ofNat a - .ofNat b))):=by kernel_rfl
 have e2:(Int.ofNat a - Int.ofNat b)=Int.ofNat (a - b):=by
  show (a:Int) - (b:Int)=((a - b:Nat):Int);omega
 rw[e2,qBW (by omega)] at e;exact qAF e
end
noncomputable def bM:List Nat:=qAm HH (qFh 0)
noncomputable def bK:List Nat:=qQE XX 1 0 0 0 (fun _=>0)
noncomputable def bS:List Nat:=qAm HH (qGI 4 0 1 7 0 0 0)
theorem bM_at (S:ASt):qAE Tryz.prog 62 [.int .u64 (.ofNat 0)] S (.agg (bl bM),S):=qYb qDb (by decide) S
theorem bK_at (S:ASt):qAE Tryz.prog 61 [qKg 0 0 0 (fun _=>0),.int .u64 (.ofNat 1)] S (.tuple [.agg (bl bK),.int .i64 (.ofNat 0)],S):=qO5 qD1 ⟨by decide,by decide,by decide,by decide,fun _=>by decide⟩ (by kernel_rfl) S
theorem bS_at (S:ASt):qAE Tryz.prog 60 [qGJ 4 false 7 0 0 0 1] S (.tuple [.agg (bl bS),.int .i64 (.ofNat 0)],S):=(qI9 qDb).yes S ⟨by decide,by decide,by decide,by decide,by decide,by decide⟩ rfl
theorem qYE (S:ASt):qAE Tryz.prog 76 [qGJ 4 false 7 0 0 0 0] S (.bool true,S):=qZe S
end fm
end Go.Proofs.YtiafochainjglaaGreatDoor.drp
