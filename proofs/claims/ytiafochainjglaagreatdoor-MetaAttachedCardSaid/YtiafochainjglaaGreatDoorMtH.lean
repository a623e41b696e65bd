/-
  OWN WORK, A PART: an abstract machine for the program's text that the kernel can run, and the proof that it is sound: what it answers is what the program answers; contracts of functions by it. No condition.
-/
import Derived.Test.YtiafochainjglaaGreatDoorMtG
import Derived.Test.YtiafochainjglaaGreatDoorMtA
import Derived.Test.YtiafochainjglaaGreatDoorMtF
import Derived.Test.YtiafochainjglaaGreatDoorHaR
import Derived.KernelRfl
import Derived.Test.YtiafochainjglaaGreatDoorMtE
section
open Go Go.Ax Go.Proofs
namespace Go.Proofs.YtiafochainjglaaGreatDoor.drp.rt
open cd cd2 cd3 cd4 cd5 cd9 oo
set_option linter.unusedVariables false
section
variable (H:List Nat→Nat→Nat) (X:List Nat→Nat) (b:Nat→List Nat)
end
section
variable {q q2:CallT} {H:List Nat→Nat→Nat} {X:List Nat→Nat} {S:ASt} {r n k:Nat} {C:Cap} {L:List (List Nat)} {b:Nat→List Nat}
end
end Go.Proofs.YtiafochainjglaaGreatDoor.drp.rt
end

section
open Go Go.Ax Go.Proofs
namespace Go.Proofs.YtiafochainjglaaGreatDoor.drp.sh
open cd
set_option linter.unusedVariables false
noncomputable def fnsZ:List (Nat×Func):=[(174,Tryz.f174),(157,Tryz.f157)]
noncomputable def EZ:Env:=envEx Tryz.prog [0,3,4,5,24,111,176,190] fnsZ []
noncomputable def cSh:Code:=Option.getD Tryz.f174.body .skip
noncomputable def tSh (q:CallT) (A:AV) (k0:Nat) (b w:Nat→Nat) (S S1 S2:ASt):Tr (Exit×AFr×ASt):=(TM EZ (onlyC [131,186] q) [] fl0 60).ex ⟨[4,8,14,19,4095,4094],[],[],[]⟩ none cSh {m:=putArgs [A] 0 .e,n:=22,defs:=[]} S
noncomputable def cSr:Code:=Option.getD Tryz.f157.body .skip
noncomputable def tSr (q:CallT) (A:AV) (k0:Nat) (b w:Nat→Nat) (S S1 S2:ASt):Tr (Exit×AFr×ASt):=(TM EZ (onlyC [131,186] q) [] fl0 60).ex ⟨[3,7,16,18,4095,4094],[],[],[]⟩ none cSr {m:=putArgs [A] 0 .e,n:=20,defs:=[]} S
noncomputable abbrev kCeW_0 (a:Nat):=AV.int .u64 (wrapF .u64 (.ofNat a))
noncomputable abbrev kCeW_1 (a:Nat):=AV.int .u64 (.ofNat a)
noncomputable abbrev kCeW_2 (a:Nat):=AV.int .u8 (.ofNat a)
noncomputable abbrev kCeW_4 (a b:Nat):=aLoad EZ 5 (AV.ptr (some (a,b)))
noncomputable abbrev kCeW_5 (a:Nat):=AV.int .u64 (shlF .u64 (.ofNat a) 8)
theorem vcSh (q:CallT) (A:AV) (k0:Nat) (b w:Nat→Nat) (S S1 S2:ASt) (Q:Exit×AFr×ASt→Prop) :
 Vq (tSh q A k0 b w S S1 S2) (fun r=>Q (rawR [2] r)) (al ((M EZ (drawA EZ) (onlyC [131,186] q) 56).call 131 [A]) S (.agg (cl (fun j=>.ofNat (b j)))) (aa (aAlloc EZ 190 S) (.ptr (some (k0,0)),S1) (aa (Option.map (fun s=>(undefA,s)) (aStore EZ 190 (.ptr (some (k0,0))) (.agg (cl (fun j=>.ofNat (b j)))) S1)) (.tuple [],S2) (al (kCeW_4 k0 0) S2 (kCeW_2 (b 0)) (as_ S2 (aBin EZ .or 24 (.tmp 16) (.tmp 18) (kCeW_1 0) (kCeW_0 (b 0))) (kCeW_1 (w 1)) (al (kCeW_4 k0 1) S2 (kCeW_2 (b 1)) (as_ S2 (aBin EZ .or 24 (.tmp 16) (.tmp 18) (kCeW_5 (w 1)) (kCeW_0 (b 1))) (kCeW_1 (w 2)) (al (kCeW_4 k0 2) S2 (kCeW_2 (b 2)) (as_ S2 (aBin EZ .or 24 (.tmp 16) (.tmp 18) (kCeW_5 (w 2)) (kCeW_0 (b 2))) (kCeW_1 (w 3)) (al (kCeW_4 k0 3) S2 (kCeW_2 (b 3)) (as_ S2 (aBin EZ .or 24 (.tmp 16) (.tmp 18) (kCeW_5 (w 3)) (kCeW_0 (b 3))) (kCeW_1 (w 4)) (al (kCeW_4 k0 4) S2 (kCeW_2 (b 4)) (as_ S2 (aBin EZ .or 24 (.tmp 16) (.tmp 18) (kCeW_5 (w 4)) (kCeW_0 (b 4))) (kCeW_1 (w 5)) (al (kCeW_4 k0 5) S2 (kCeW_2 (b 5)) (as_ S2 (aBin EZ .or 24 (.tmp 16) (.tmp 18) (kCeW_5 (w 5)) (kCeW_0 (b 5))) (kCeW_1 (w 6)) (al (kCeW_4 k0 6) S2 (kCeW_2 (b 6)) (as_ S2 (aBin EZ .or 24 (.tmp 16) (.tmp 18) (kCeW_5 (w 6)) (kCeW_0 (b 6))) (kCeW_1 (w 7)) (al (kCeW_4 k0 7) S2 (kCeW_2 (b 7)) (as_ S2 (aBin EZ .or 24 (.tmp 16) (.tmp 18) (kCeW_5 (w 7)) (kCeW_0 (b 7))) (kCeW_1 (w 8)) (aq (Q (.ret,xFr [(2,.int .u64 (.ofNat (w 8)))] 22,S2)))))))))))))))))))))):=vq (by kernel_rfl)
noncomputable abbrev kCeW_3 (a:Nat):=AV.int .u64 (wrapF .u64 (.ofNat 256 * .ofNat a))
theorem vcSr (q:CallT) (A:AV) (k0:Nat) (b w:Nat→Nat) (S S1 S2:ASt) (Q:Exit×AFr×ASt→Prop) :
 Vq (tSr q A k0 b w S S1 S2) (fun r=>Q (rawR [2] r)) (al ((M EZ (drawA EZ) (onlyC [131,186] q) 57).call 186 [A]) S (.agg (cl (fun j=>.ofNat (b j)))) (aa (aAlloc EZ 190 S) (.ptr (some (k0,0)),S1) (aa (Option.map (fun s=>(undefA,s)) (aStore EZ 190 (.ptr (some (k0,0))) (.agg (cl (fun j=>.ofNat (b j)))) S1)) (.tuple [],S2) (al (kCeW_4 k0 0) S2 (kCeW_2 (b 0)) (as_ S2 (aBin EZ .add 24 (.tmp 13) (.tmp 17) (kCeW_1 0) (kCeW_0 (b 0))) (kCeW_1 (w 1)) (al (kCeW_4 k0 1) S2 (kCeW_2 (b 1)) (as_ S2 (aBin EZ .add 24 (.tmp 13) (.tmp 17) (kCeW_3 (w 1)) (kCeW_0 (b 1))) (kCeW_1 (w 2)) (al (kCeW_4 k0 2) S2 (kCeW_2 (b 2)) (as_ S2 (aBin EZ .add 24 (.tmp 13) (.tmp 17) (kCeW_3 (w 2)) (kCeW_0 (b 2))) (kCeW_1 (w 3)) (al (kCeW_4 k0 3) S2 (kCeW_2 (b 3)) (as_ S2 (aBin EZ .add 24 (.tmp 13) (.tmp 17) (kCeW_3 (w 3)) (kCeW_0 (b 3))) (kCeW_1 (w 4)) (al (kCeW_4 k0 4) S2 (kCeW_2 (b 4)) (as_ S2 (aBin EZ .add 24 (.tmp 13) (.tmp 17) (kCeW_3 (w 4)) (kCeW_0 (b 4))) (kCeW_1 (w 5)) (al (kCeW_4 k0 5) S2 (kCeW_2 (b 5)) (as_ S2 (aBin EZ .add 24 (.tmp 13) (.tmp 17) (kCeW_3 (w 5)) (kCeW_0 (b 5))) (kCeW_1 (w 6)) (al (kCeW_4 k0 6) S2 (kCeW_2 (b 6)) (as_ S2 (aBin EZ .add 24 (.tmp 13) (.tmp 17) (kCeW_3 (w 6)) (kCeW_0 (b 6))) (kCeW_1 (w 7)) (al (kCeW_4 k0 7) S2 (kCeW_2 (b 7)) (as_ S2 (aBin EZ .add 24 (.tmp 13) (.tmp 17) (kCeW_3 (w 7)) (kCeW_0 (b 7))) (kCeW_1 (w 8)) (aq (Q (.ret,xFr [(2,.int .u64 (.ofNat (w 8)))] 20,S2)))))))))))))))))))))):=vq (by kernel_rfl)
open cd2 (Shorts)
open cd3
theorem EZok:Env.Ok Tryz.prog EZ:=envEx_ok (xs:=[]) ⟨⟨Tryz.func174,Tryz.call174⟩,⟨Tryz.func157,Tryz.call157⟩,trivial⟩ trivial (by kernel_rfl)
section
variable {S:ASt} {x y:Operand}
theorem orZ0 {b:Nat} (hb:b<256):still S (aBin EZ .or 24 x y (.int .u64 (.ofNat 0)) (.int .u64 (wrapF .u64 (.ofNat b))))=some (.int .u64 (.ofNat (0*256+b)),S):=by
 have e:aBin EZ .or 24 x y (.int .u64 (.ofNat 0)) (.int .u64 (wrapF .u64 (.ofNat b)))=some (.int .u64 (wrapF .u64 (.ofNat (Nat.lor 0 (modN (wrapF .u64 (.ofNat b)) 18446744073709551616))))):=by kernel_rfl
 rw[or0 hb] at e
 rw[Nat.zero_mul,Nat.zero_add]
 exact still_of e
theorem orZ1 {n b:Nat} (hn:n<72057594037927936) (hb:b<256):still S (aBin EZ .or 24 x y (.int .u64 (shlF .u64 (.ofNat n) 8)) (.int .u64 (wrapF .u64 (.ofNat b))))=some (.int .u64 (.ofNat (n*256+b)),S):=by
 have e:aBin EZ .or 24 x y (.int .u64 (shlF .u64 (.ofNat n) 8)) (.int .u64 (wrapF .u64 (.ofNat b)))=some (.int .u64 (wrapF .u64 (.ofNat (Nat.lor (modN (shlF .u64 (.ofNat n) 8) 18446744073709551616) (modN (wrapF .u64 (.ofNat b)) 18446744073709551616))))):=by kernel_rfl
 rw[or1 hn hb] at e
 exact still_of e
theorem adZ0 {b:Nat} (hb:b<256):still S (aBin EZ .add 24 x y (.int .u64 (.ofNat 0)) (.int .u64 (wrapF .u64 (.ofNat b))))=some (.int .u64 (.ofNat (0*256+b)),S):=by
 have e:aBin EZ .add 24 x y (.int .u64 (.ofNat 0)) (.int .u64 (wrapF .u64 (.ofNat b)))=some (.int .u64 (wrapF .u64 (.ofNat 0+wrapF .u64 (.ofNat b)))):=by kernel_rfl
 rw[ad0 hb] at e
 rw[Nat.zero_mul,Nat.zero_add]
 exact still_of e
theorem adZ1 {n b:Nat} (hn:n<72057594037927936) (hb:b<256):still S (aBin EZ .add 24 x y (.int .u64 (wrapF .u64 (.ofNat n * .ofNat 256))) (.int .u64 (wrapF .u64 (.ofNat b))))=some (.int .u64 (.ofNat (n*256+b)),S):=by
 have e:aBin EZ .add 24 x y (.int .u64 (wrapF .u64 (.ofNat n * .ofNat 256))) (.int .u64 (wrapF .u64 (.ofNat b)))=some (.int .u64 (wrapF .u64 (wrapF .u64 (.ofNat n * .ofNat 256)+wrapF .u64 (.ofNat b)))):=by kernel_rfl
 rw[ad1 hn hb] at e
 exact still_of e
theorem adM1 {n b:Nat} (hn:n<72057594037927936) (hb:b<256):still S (aBin EZ .add 24 x y (.int .u64 (wrapF .u64 (.ofNat 256 * .ofNat n))) (.int .u64 (wrapF .u64 (.ofNat b))))=some (.int .u64 (.ofNat (n*256+b)),S):=by
 rw[Int.mul_comm]
 exact adZ1 hn hb
end
def fw (b:Nat→Nat):Nat→Nat
 | 0=>0
 | k+1=>fw b k*256+b k
theorem fw_lt {b:Nat→Nat} (h:∀i,b i<256):∀k,fw b k<256 ^ k
 | 0=>by show 0<1;decide
 | k+1=>by
  have ih:=fw_lt h k
  have:=h k
  show fw b k*256+b k<256 ^ k*256
  omega
section
variable {S:ASt} {q:CallT} {A:AV} {b:Nat→Nat}
theorem short_own (hq0:CallsOK Tryz.prog q) (ht:Tidy S) (hb:∀i,b i<256) (hq:q 131 [A] S=some (.agg (cl (fun j=>.ofNat (b j))),S)):Call1 Tryz.prog 174 [A] S (.int .u64 (.ofNat (fw b 8)),S):=by
 have hw:∀j,j<8→fw b j<72057594037927936:=fun j hj=>Nat.lt_of_lt_of_le (fw_lt hb j) (by rw[show 72057594037927936=256 ^ 7 from rfl];exact Nat.pow_le_pow_right (by decide) (by omega))
 have o0:=Ov.nil ht
 obtain⟨S1,e1,o1⟩:=o0.add (.cells (cl (fun j=>.ofNat 0)) true)
 obtain⟨S2,e2,o2⟩:=o1.stA (E:=EZ) (t:=190) (i:=0) (k:=S.next) (o:=0) (z:=32) (vs:=(cl (fun j=>.ofNat (b j)))) ([]) ((cl (fun j=>.ofNat 0))) ([])
 refine exD Tryz.f174 cSh 22 [2] EZok (onlyC_ok hq0) (int_p ..) (Eq.mp (vcSh q A (S.next) b (fw b) S S1 S2 (Left EZ Tryz.f174 22 S (.int .u64 (.ofNat (fw b 8))))) ?_)
 exact⟨ca hq,o0.al e1,e2,o2.ld1 (i:=0) (cs:=(cl (fun j=>.ofNat (b j)))),(orZ0 (hb _)),o2.ld1 (i:=0) (cs:=(cl (fun j=>.ofNat (b j)))),orZ1 (hw 1 (by omega)) (hb _),o2.ld1 (i:=0) (cs:=(cl (fun j=>.ofNat (b j)))),orZ1 (hw 2 (by omega)) (hb _),o2.ld1 (i:=0) (cs:=(cl (fun j=>.ofNat (b j)))),orZ1 (hw 3 (by omega)) (hb _),o2.ld1 (i:=0) (cs:=(cl (fun j=>.ofNat (b j)))),orZ1 (hw 4 (by omega)) (hb _),o2.ld1 (i:=0) (cs:=(cl (fun j=>.ofNat (b j)))),orZ1 (hw 5 (by omega)) (hb _),o2.ld1 (i:=0) (cs:=(cl (fun j=>.ofNat (b j)))),orZ1 (hw 6 (by omega)) (hb _),o2.ld1 (i:=0) (cs:=(cl (fun j=>.ofNat (b j)))),orZ1 (hw 7 (by omega)) (hb _),(Left.of (rs:=[.tmp 2]) o2 rfl (by kernel_rfl) rfl (res_tmp (by kernel_rfl) res_nil) rfl)⟩
theorem short_ref (hq0:CallsOK Tryz.prog q) (ht:Tidy S) (hb:∀i,b i<256) (hq:q 186 [A] S=some (.agg (cl (fun j=>.ofNat (b j))),S)):Call1 Tryz.prog 157 [A] S (.int .u64 (.ofNat (fw b 8)),S):=by
 have hw:∀j,j<8→fw b j<72057594037927936:=fun j hj=>Nat.lt_of_lt_of_le (fw_lt hb j) (by rw[show 72057594037927936=256 ^ 7 from rfl];exact Nat.pow_le_pow_right (by decide) (by omega))
 have o0:=Ov.nil ht
 obtain⟨S1,e1,o1⟩:=o0.add (.cells (cl (fun j=>.ofNat 0)) true)
 obtain⟨S2,e2,o2⟩:=o1.stA (E:=EZ) (t:=190) (i:=0) (k:=S.next) (o:=0) (z:=32) (vs:=(cl (fun j=>.ofNat (b j)))) ([]) ((cl (fun j=>.ofNat 0))) ([])
 refine exD Tryz.f157 cSr 20 [2] EZok (onlyC_ok hq0) (int_p ..) (Eq.mp (vcSr q A (S.next) b (fw b) S S1 S2 (Left EZ Tryz.f157 20 S (.int .u64 (.ofNat (fw b 8))))) ?_)
 exact⟨ca hq,o0.al e1,e2,o2.ld1 (i:=0) (cs:=(cl (fun j=>.ofNat (b j)))),(adZ0 (hb _)),o2.ld1 (i:=0) (cs:=(cl (fun j=>.ofNat (b j)))),adM1 (hw 1 (by omega)) (hb _),o2.ld1 (i:=0) (cs:=(cl (fun j=>.ofNat (b j)))),adM1 (hw 2 (by omega)) (hb _),o2.ld1 (i:=0) (cs:=(cl (fun j=>.ofNat (b j)))),adM1 (hw 3 (by omega)) (hb _),o2.ld1 (i:=0) (cs:=(cl (fun j=>.ofNat (b j)))),adM1 (hw 4 (by omega)) (hb _),o2.ld1 (i:=0) (cs:=(cl (fun j=>.ofNat (b j)))),adM1 (hw 5 (by omega)) (hb _),o2.ld1 (i:=0) (cs:=(cl (fun j=>.ofNat (b j)))),adM1 (hw 6 (by omega)) (hb _),o2.ld1 (i:=0) (cs:=(cl (fun j=>.ofNat (b j)))),adM1 (hw 7 (by omega)) (hb _),(Left.of (rs:=[.tmp 2]) o2 rfl (by kernel_rfl) rfl (res_tmp (by kernel_rfl) res_nil) rfl)⟩
end
theorem tidy_of {B:Prot} {w0:World} {ι:Go.Ax.Ren} {S:ASt} {w:World} (h:SR B w0 ι S w):Tidy S:=fun k hk=>by
 cases hg:S.h.get k with
 | none=>rfl
 | some a=>have:=h.hdom k a hg;omega
def wl (w:Int):List Int:=[wrapF .u8 (shrF w 24),wrapF .u8 (shrF w 16),wrapF .u8 (shrF w 8),wrapF .u8 (shrF w 0)]
def outL (s:S8):List Int:=wl s.a++(wl s.b++(wl s.c++(wl s.d++(wl s.e++(wl s.f++(wl s.g++wl s.h))))))
def hx (s:S8) (i:Nat):Int:=(outL s).getD i 0
theorem outI_cl (s:S8):outI s=.agg (cl (hx s)):=rfl
def By (x:Int):Prop:=∃m:Nat,m<256∧x=.ofNat m
theorem ByW (z:Int):By (wrapF .u8 z):=by
 have hb:modN z (big .u8)<256:=by
  show modN z 256<256
  cases z with
  | ofNat m=>exact Nat.mod_lt _ (by omega)
  | negSucc m=>exact Nat.lt_of_le_of_lt (Nat.sub_le _ _) (by omega)
 refine⟨modN z (big .u8),hb,?_⟩
 unfold wrapF
 have hh:Nat.blt (modN z (big .u8)) (half .u8)=true:=blt_t hb
 simp only[hh,cond_true]
theorem wl_By (w:Int):∀z,z∈wl w→By z:=fun z hz=>by
 simp only[wl,List.mem_cons,List.not_mem_nil,or_false] at hz
 rcases hz with rfl | rfl | rfl | rfl<;>exact ByW _
theorem outL_By (s:S8):∀z,z∈outL s→By z:=fun z hz=>by
 simp only[outL,List.mem_append] at hz
 rcases hz with h | h | h | h | h | h | h | h<;>exact wl_By _ z h
theorem hx_By (s:S8) {i:Nat} (h:i<32):By (hx s i):=by
 have hl:(outL s).length=32:=rfl
 unfold hx
 rw[List.getD_eq_getElem?_getD,List.getElem?_eq_getElem (by rw[hl];exact h)]
 exact outL_By s _ (List.getElem_mem _)
noncomputable def s8 (l:List Nat):S8:=sumI l
noncomputable def HH (l:List Nat) (j:Nat):Nat:=(hx (s8 l) j).toNat % 256
theorem HH_cl (l:List Nat):outI (s8 l)=.agg (cl fun j=>.ofNat (HH l j)):=by
 rw[outI_cl]
 refine congrArg AV.agg ?_
 unfold cl
 refine List.map_congr_left fun i hi=>?_
 obtain⟨m,hm,e⟩:=hx_By (s8 l) (List.mem_range.1 hi)
 show AV.int .u8 (hx (s8 l) i)=.int .u8 (.ofNat ((hx (s8 l) i).toNat % 256))
 rw[e]
 show AV.int .u8 (.ofNat m)=.int .u8 (.ofNat (m % 256))
 rw[Nat.mod_eq_of_lt hm]
theorem cellU_inj:∀{a b:List Nat},a.map cellU=b.map cellU→a=b
 | [],[],_=>rfl
 | [],_::_,h=>by simp at h
 | _::_,[],h=>by simp at h
 | x::a,y::b,h=>by
  simp only[List.map_cons,List.cons.injEq] at h
  have h1:x=y:=by have:=h.1;simp only[cellU,AV.int.injEq,true_and] at this;exact Int.ofNat.inj this
  rw[h1,cellU_inj h.2]
noncomputable def qS:CallT:=orC (sumSum 131 [248]) (sumB8 186 [248])
theorem bN:∀l:List Nat,bytesN (l.map cellU)=some l
 | []=>rfl
 | a::l=>by
  show (match bytesN (l.map cellU) with | some l=>some (a::l) | none=>none)=_
  rw[bN l]
theorem sumsP:Sums qS HH :=
 ⟨orC_ok shaPart.sum_ok shaPart.sumR_ok,fun l i=>Nat.mod_lt _ (by decide),fun {l S i cs rw c} hl hb hg ht=>by
   refine orC_l ?_
   rw[←HH_cl]
   unfold sumSum
   simp only[Nat.beq_refl,cond_true,show memN 248 [248]=true from rfl,hg,ht,bN,S8.forceS_eq,foldF_eq]
   rfl,
  fun {l S i cs rw c} hl hb hg ht=>by
   refine orC_r rfl ?_
   rw[←HH_cl]
   have h8:(l.all fun x=>Nat.blt x 256)=true:=List.all_eq_true.2 fun x hx=>blt_t (hb x hx)
   unfold sumB8
   simp only[Nat.beq_refl,cond_true,show memN 248 [248]=true from rfl,hg,ht,bN,h8]
   rfl⟩
noncomputable def XX (l:List Nat):Nat:=fw (HH l) 8
def RowL (st:ASt) (i:Nat) (l:List Nat):Prop:=l.length=248∧(∀x,x∈l→x<256)∧∃cs rw,st.h.get i=some (.cells cs rw)∧takeL cs 0 248=some (l.map cellU)
noncomputable def qT:CallT:=fun f args st=>open Classical in match args with
 | [.slice (some (i,0)) 248 _]=>if h:(f=174∨f=157)∧∃l,RowL st i l then some (.int .u64 (.ofNat (XX h.2.choose)),st) else none
 | _=>none
theorem qT_at {S:ASt} {i f:Nat} {l:List Nat} {c:Cap} (hf:f=174∨f=157) (h:RowL S i l):qT f [.slice (some (i,0)) 248 c] S=some (.int .u64 (.ofNat (XX l)),S):=by
 have hh:(f=174∨f=157)∧∃l,RowL S i l:=⟨hf,l,h⟩
 have hv:hh.2.choose=l:=by
  obtain⟨_,_,cs,rw,h1,h2⟩:=hh.2.choose_spec
  obtain⟨_,_,cs',rw',h3,h4⟩:=h
  rw[h3] at h1;cases h1
  rw[h4] at h2
  exact cellU_inj (Option.some.inj h2).symm
 unfold qT
 simp only[dif_pos hh,hv]
theorem qT_ok:CallsOK Tryz.prog qT:=fun B w0 f args st r hr ι w args' hsr hv=>by
 unfold qT at hr
 split at hr
 ·rename_i i c
  split at hr
  ·rename_i hh
   obtain⟨l,hl⟩:=hh.2
   have e:=qT_at (c:=c) hh.1 hl
   unfold qT at e
   simp only[dif_pos hh] at e
   have e2:=Option.some.inj (hr.symm.trans e)
   subst e2
   obtain⟨h1,h2,cs,rw,h3,h4⟩:=hl
   rcases hh.1 with rfl | rfl
   ·exact short_own sumsP.ok (tidy_of hsr) (fun i=>sumsP.lt l i) (sumsP.own h1 h2 h3 h4) B w0 ι w args' hsr hv
   ·exact short_ref sumsP.ok (tidy_of hsr) (fun i=>sumsP.lt l i) (sumsP.ref h1 h2 h3 h4) B w0 ι w args' hsr hv
  ·cases hr
 ·cases hr
theorem shortsP:Shorts qT XX :=
 ⟨qT_ok,fun l=>by
  have:=fw_lt (sumsP.lt l) 8
  exact this,fun h1 h2 h3 h4=>qT_at (.inl rfl) ⟨h1,h2,_,_,h3,h4⟩,fun h1 h2 h3 h4=>qT_at (.inr rfl) ⟨h1,h2,_,_,h3,h4⟩⟩
end Go.Proofs.YtiafochainjglaaGreatDoor.drp.sh
end

section
open Go Go.Ax Go.Proofs
namespace Go.Proofs.YtiafochainjglaaGreatDoor.drp.my
set_option linter.unusedVariables false
open cd cd2 cd3 cd4 cd5 cd9 oo
section
variable {Y:ASt} {a b:Nat} {x y:Operand}
end
section
variable {H:List Nat→Nat→Nat} {X:List Nat→Nat} {b:Nat→List Nat} {k:Nat}
end
end Go.Proofs.YtiafochainjglaaGreatDoor.drp.my
end

section
open Go Go.Ax Go.Proofs
namespace Go.Proofs.YtiafochainjglaaGreatDoor.drp
open dsk
set_option linter.unusedVariables false
def byL (b:List Nat):Prop:=∀j,b.getD j 0<256
theorem byL_nil:byL []:=fun j=>by simp
structure Dv (base:Nat) (S0 S:ASt) (d l m n c:Nat) (las:List (List Nat)) (es:List En):Prop where
 dk:∃ck,Disk S d l m las es ck
 llo:base≤l
 mlo:base≤m
 dlo:base≤d
 len:las.length=n
 rlo:∀e,e∈es→base≤e.r
 few:∀i,(vers es i).length≤c
 lby:∀b,b∈las→byL b
 vby:∀i b,b∈vers es i→byL b
 tidy:Tidy S
 next:base≤S.next
 same:∀k,k<base→S.h.get k=S0.h.get k
theorem curB_by {las:List (List Nat)} {es:List En} (h1:∀b,b∈las→byL b) (h2:∀i b,b∈vers es i→byL b) (i:Nat):byL (curB las es i):=by
 unfold curB
 cases h:(vers es i).getLast? with
 | some b=>exact h2 i b (List.mem_of_getLast? h)
 | none =>
  show byL (las.getD i [])
  rw[List.getD_eq_getElem?_getD]
  cases h3:las[i]? with
  | some b=>exact h1 b (List.mem_of_getElem? h3)
  | none=>exact byL_nil
theorem vs_vers {es:List En} (hk:(es.map (·.k)).Nodup) {e:En} (he:e∈es):vers es e.k=e.vs:=by
 obtain⟨A,e',C,hes,hek,hA,hC,hv⟩:=split_at hk ⟨e,he,rfl⟩
 rw[hes] at he
 rcases List.mem_append.1 he with h | h
 ·exact absurd rfl (hA e h)
 ·rcases List.mem_cons.1 h with h | h
  ·rw[hv,←h]
  ·exact absurd rfl (hC e h)
section
variable {base d l m n c:Nat} {S0 S:ASt} {las:List (List Nat)} {es:List En}
theorem Dv.dsk (h:Dv base S0 S d l m n c las es) (hc:c<1000000):Dsk S d las es:=by
 obtain⟨ck,hd⟩:=h.dk
 exact⟨⟨l,m,ck,hd⟩,h.tidy,fun i=>Nat.lt_of_le_of_lt (h.few i) hc,fun i=>curB_by h.lby h.vby i⟩
theorem Dv.keep {S':ASt} (h:Dv base S0 S d l m n c las es) (hn:S.next≤S'.next) (ht:Tidy S') (hk:∀k,k<S.next→S'.h.get k=S.h.get k):Dv base S0 S' d l m n c las es:=by
 obtain⟨ck,hd⟩:=h.dk
 have hl:=h.llo
 have hm:=h.mlo
 exact⟨⟨ck,hd.keep h.tidy hk⟩,hl,hm,h.dlo,h.len,h.rlo,h.few,h.lby,h.vby,ht,Nat.le_trans h.next hn,fun k hb=>(hk k (Nat.lt_of_lt_of_le hb h.next)).trans (h.same k hb)⟩
theorem Dv.write {b:List Nat} {i:Nat} (h:Dv base S0 S d l m n c las es) (hc:c<1000000) (hi:i<n) (hb:byL b):∃S' es',Call1 Tryz.prog 19 [pO d,dsk.nI i,.agg (bl b)] S (dsk.nI 0,S')∧Dv base S0 S' d l m n (c+1) las es'∧S.next≤S'.next∧∀k,k<S.next→k≠l→k≠m→S'.h.get k=S.h.get k:=by
 obtain⟨ck,hd⟩:=h.dk
 have hl:=h.llo
 have hm:=h.mlo
 obtain⟨S',es',ck',hcall,hd',ht',hn',hk',hv',hr'⟩:=write_at (b:=b) hd h.tidy (show i<las.length by rw[h.len];exact hi) (Nat.lt_of_le_of_lt (h.few i) hc)
 refine⟨S',es',hcall,⟨⟨ck',hd'⟩,hl,hm,h.dlo,h.len,fun a ha=>?_,fun j=>?_,h.lby,fun j x hx=>?_,ht',Nat.le_trans h.next hn',fun k hk=>?_⟩,hn',fun k hk _ hkm=>hk' k hk hkm⟩
 ·rcases hr' a ha with⟨e,he,hea⟩ | hge
  ·rw[←hea];exact h.rlo e he
  ·exact Nat.le_trans h.next hge
 ·rw[hv']
  split
  ·rw[List.length_append]
   have:=h.few i
   simp only[List.length_singleton];omega
  ·exact Nat.le_succ_of_le (h.few j)
 ·rw[hv'] at hx
  split at hx
  ·rcases List.mem_append.1 hx with hx | hx
   ·exact h.vby i x hx
   ·rw[List.mem_singleton.1 hx];exact hb
  ·exact h.vby j x hx
 ·rw[hk' k (Nat.lt_of_lt_of_le hk h.next) (by omega)];exact h.same k hk
theorem Dv.flush (h:Dv base S0 S d l m n c las es) (hc:c<1000000) (hn0:0<n):∃S' las',Call1 Tryz.prog 40 [pO d] S (dsk.nI 0,S')∧Dv base S0 S' d l m n c las' []∧S.next≤S'.next∧∀k,k<S.next→k≠l→k≠m→S'.h.get k=S.h.get k:=by
 obtain⟨ck,hd⟩:=h.dk
 have hl:=h.llo
 have hm:=h.mlo
 obtain⟨S',hcall,hd',ht',hn',hk'⟩:=flush_at hd h.tidy (by rw[h.len];exact hn0) (fun e he=>by
  have:=h.few e.k
  rw[vs_vers hd.keys he] at this
  omega)
 refine⟨S',flushed las es,hcall,⟨⟨ck,hd'⟩,hl,hm,h.dlo,by unfold flushed;rw[List.length_map,List.length_range,h.len],fun e he=>(by cases he),fun i=>by simp[vers],fun b hb=>?_,fun i b hb=>by simp[vers] at hb,ht',Nat.le_trans h.next hn',fun k hk=>?_⟩,hn',fun k hk h1 h2=>hk' k hk h1 h2⟩
 ·unfold flushed at hb
  obtain⟨i,_,rfl⟩:=List.mem_map.1 hb
  exact curB_by h.lby h.vby i
 ·rw[hk' k (Nat.lt_of_lt_of_le hk h.next) (by omega) (by omega)];exact h.same k hk
theorem Dv.new (ht:Tidy S) (h1:1≤n) (h2:n≤1000):∃S' d l m,Call1 Tryz.prog 13 [dsk.nI n] S (.tuple [pO d,dsk.nI 0],S')∧Dv S.next S S' d l m n 0 (List.replicate n []) []:=by
 obtain⟨S',d,l,m,hcall,hd,ht',hn',hdl,hl,hm,hk⟩:=new_at ht h1 h2
 exact⟨S',d,l,m,hcall,⟨0,hd⟩,hl,hm,hdl,by simp,fun e he=>(by cases he),fun i=>by simp[vers],fun b hb=>by rw[(List.mem_replicate.1 hb).2];exact byL_nil,fun i b hb=>by simp[vers] at hb,ht',hn',hk⟩
theorem Dv.mono {c':Nat} (h:Dv base S0 S d l m n c las es) (hc:c≤c'):Dv base S0 S d l m n c' las es :=
 ⟨h.dk,h.llo,h.mlo,h.dlo,h.len,h.rlo,fun i=>Nat.le_trans (h.few i) hc,h.lby,h.vby,h.tidy,h.next,h.same⟩
end
def DV (base:Nat) (S0:ASt) (d l m n:Nat) (S:ASt) (c:Nat):Prop:=∃las es,Dv base S0 S d l m n c las es
end Go.Proofs.YtiafochainjglaaGreatDoor.drp
end

section
open Go Go.Ax Go.Proofs
namespace Go.Proofs.YtiafochainjglaaGreatDoor.drp.fm
set_option linter.unusedVariables false
noncomputable def fnsF:List (Nat×Func):=[(14,Tryz.f14),(52,Tryz.f52),(78,Tryz.f78),(120,Tryz.f120),(81,Tryz.f81),(113,Tryz.f113),(114,Tryz.f114),(140,Tryz.f140),(115,Tryz.f115),(84,Tryz.f84),(142,Tryz.f142),(116,Tryz.f116),(117,Tryz.f117),(147,Tryz.f147),(118,Tryz.f118),(119,Tryz.f119)]
noncomputable def EF:Env:=envEx Tryz.prog [0,3,4,5,23,24,25,26,27,28,29,30,31,32,33,37,43,49,54,73,103,104,111,143,144,169] fnsF []
def lnA:List AV:=[.int .u64 (.ofNat 7),.int .u64 (.ofNat 0),.int .u64 (.ofNat 0),.int .u64 (.ofNat 0)]
def clL (k0 k1 k2 k4:Nat):List AV:=[.clos 113 [.ptr (some (k0,0))],.clos 115 [.ptr (some (k4,0)),.ptr (some (k0,0))],.clos 116 [.ptr (some (k0,0))],.clos 118 [.ptr (some (k0,0)),.ptr (some (k1,0)),.ptr (some (k2,0))]]
noncomputable def tFm (q:CallT) (d k k0 k1 k2 k3 k4 k5 k6 k7 k8:Nat) (MB KB SB:List Nat) (S S1 S2 S3 S4 S5 S6 S7 S8 S9 S10 S11 S12 S13 S14 S15 S16 S17 S18 S19 S20 S21 S22 S23 S24 S25 S26:ASt):Tr (AV×ASt):=(TM EF (onlyC [13,73,19,40,60,61,62,76] q) [(14,⟨[6,9,13,14],[23],[],[]⟩),(52,⟨[4,6,7,15,21,22,24,10,40,4095,4094],[17,28,42],[],[]⟩),(78,⟨[7,8,12,15,18],[11,17],[],[]⟩),(120,⟨[4,7,10],[],[],[]⟩),(81,⟨[5,8,12],[],[],[]⟩),(113,⟨[2],[3],[],[]⟩),(114,⟨[26,32],[13],[],[]⟩),(140,⟨[9,10,25,27,28],[],[],[]⟩),(115,⟨[3,4],[5],[],[]⟩),(84,⟨[14,15,23,24,31,32,33,38],[10],[],[]⟩),(142,⟨[9,10],[],[],[]⟩),(116,⟨[2],[3],[],[]⟩),(117,⟨[10,11,18,19,20,26,31,6,36,4095],[37],[],[]⟩),(147,⟨[5,10,11,16],[],[],[]⟩),(118,⟨[4,5,6],[7],[],[]⟩),(119,⟨[4,13,15,7,20,21,27,28,32,37,38,43,4095],[],[],[]⟩)] fl0 80).call 14 [.int .i64 (.ofNat k)] S
noncomputable abbrev kCfB_0 (a:CallT) (b:Nat):=M EF (drawA EF) (onlyC [13,73,19,40,60,61,62,76] a) b
noncomputable abbrev kCfB_1 (a:Nat):=AV.int .i64 (.ofNat a)
noncomputable abbrev kCfB_2 (a:Nat):=AV.int .i64 (.ofNat (9+a))
noncomputable abbrev kCfB_3 (a b c:Nat):=aLoad EF a (AV.ptr (some (b,c)))
noncomputable abbrev kCfB_4 (a b:Nat):List AV:=[.ptr (some (a,0)),.int .i64 (.ofNat b),.agg (bl [])]
noncomputable abbrev kCfB_5:=Operand.const (Value.int .i64 0)
noncomputable abbrev kCfB_6 (a:Nat):List AV:=[.agg [.int .i64 (.ofNat 4),.bool false,.int .u64 (.ofNat 7),.int .u64 (.ofNat 0),.int .u64 (.ofNat 0),.int .u64 (.ofNat 0),.int .u64 (.ofNat a)]]
noncomputable abbrev kCfB_7:=Operand.const (Value.int .i64 1)
noncomputable abbrev kCfB_8 (a:ASt) (b c d e:Nat):=ASt.add a (AO.cells (clL b c d e) true)
noncomputable abbrev kCfB_9:=Operand.const (Value.int .i64 64)
theorem vcFm (q:CallT) (d k k0 k1 k2 k3 k4 k5 k6 k7 k8:Nat) (MB KB SB:List Nat) (S S1 S2 S3 S4 S5 S6 S7 S8 S9 S10 S11 S12 S13 S14 S15 S16 S17 S18 S19 S20 S21 S22 S23 S24 S25 S26:ASt) (Q:AV×ASt→Prop) :
 Vq (tFm q d k k0 k1 k2 k3 k4 k5 k6 k7 k8 MB KB SB S S1 S2 S3 S4 S5 S6 S7 S8 S9 S10 S11 S12 S13 S14 S15 S16 S17 S18 S19 S20 S21 S22 S23 S24 S25 S26) Q (as_ S (aBin EF .lss 3 (.tmp 5) kCfB_7 (kCfB_1 k) (kCfB_1 1)) (.bool false) (as_ S (aBin EF .gtr 3 (.tmp 8) kCfB_9 (kCfB_1 k) (kCfB_1 64)) (.bool false) (as_ S (aBin EF .add 3 (.const (.int .i64 9)) (.tmp 12) (kCfB_1 9) (kCfB_1 k)) (kCfB_2 k) (aa ((kCfB_0 q 75).call 13 [.int .i64 (.ofNat (9+k))] S) (.tuple [.ptr (some (d,0)),.int .i64 (.ofNat 0)],S1) (aa (aBox (.ptr (some (d,0))) S1) (.ptr (some (k0,0)),S2) (aa (aBox (.agg lnA) S2) (.ptr (some (k1,0)),S3) (aa (aBox (kCfB_1 4) S3) (.ptr (some (k2,0)),S4) (al (kCfB_3 43 k0 0) S4 (.ptr (some (d,0))) (al ((kCfB_0 q 62).call 73 [.ptr (some (d,0))]) S4 (kCfB_2 k) (as_ S4 (aBin EF .eql 3 (.tmp 7) kCfB_5 (kCfB_2 k) (kCfB_1 0)) (.bool false) (as_ S4 (aBin EF .lss 3 (.tmp 3) kCfB_7 (kCfB_1 k) (kCfB_1 1)) (.bool false) (as_ S4 (aBin EF .gtr 3 (.tmp 6) kCfB_9 (kCfB_1 k) (kCfB_1 64)) (.bool false) (as_ S4 (aBin EF .add 3 (.const (.int .i64 9)) (.tmp 9) (kCfB_1 9) (kCfB_1 k)) (kCfB_2 k) (as_ S4 (aBin EF .eql 3 (.tmp 11) kCfB_5 (kCfB_2 k) (kCfB_1 0)) (.bool false) (al ((kCfB_0 q 60).call 73 [.ptr (some (d,0))]) S4 (kCfB_2 k) (as_ S4 (aBin EF .lss 3 (.tmp 3) kCfB_7 (kCfB_1 k) (kCfB_1 1)) (.bool false) (as_ S4 (aBin EF .gtr 3 (.tmp 6) kCfB_9 (kCfB_1 k) (kCfB_1 64)) (.bool false) (as_ S4 (aBin EF .add 3 (.const (.int .i64 9)) (.tmp 9) (kCfB_1 9) (kCfB_1 k)) (kCfB_2 k) (as_ S4 (aBin EF .neq 3 (.tmp 15) (.tmp 17) (kCfB_2 k) (kCfB_2 k)) (.bool false) (al (kCfB_3 23 k2 0) S4 (kCfB_1 4) (al (kCfB_3 27 k1 0) S4 (.agg lnA) (al ((kCfB_0 q 67).call 76 (kCfB_6 0)) S4 (.bool true) (as_ S4 (aBin EF .lss 3 (.tmp 4) kCfB_7 (kCfB_1 k) (kCfB_1 1)) (.bool false) (as_ S4 (aBin EF .gtr 3 (.tmp 7) kCfB_9 (kCfB_1 k) (kCfB_1 64)) (.bool false) (aa (aBox (.agg [.int .i64 (.ofNat k),.int .u64 (.ofNat 0)]) S4) (.ptr (some (k3,0)),S5) (aa (aAlloc EF 73 S5) (.ptr (some (k4,0)),S6) (aa (Option.map (fun s=>(undefA,s)) (aStore EF 73 (.ptr (some (k4,0))) (.ptr (some (k3,0))) S6)) (.tuple [],S7) (al (aLoad EF 49 (.ptr (some (S7.next,0)))) (kCfB_8 S7 k0 k1 k2 k4) (.clos 113 [.ptr (some (k0,0))]) (al (kCfB_3 43 k0 0) (kCfB_8 S7 k0 k1 k2 k4) (.ptr (some (d,0))) (al ((kCfB_0 q 42).call 73 [.ptr (some (d,0))]) (kCfB_8 S7 k0 k1 k2 k4) (kCfB_2 k) (as_ (kCfB_8 S7 k0 k1 k2 k4) (aBin EF .eql 3 (.tmp 9) kCfB_5 (kCfB_2 k) (kCfB_1 0)) (.bool false) (al ((kCfB_0 q 40).call 73 [.ptr (some (d,0))]) (kCfB_8 S7 k0 k1 k2 k4) (kCfB_2 k) (as_ (kCfB_8 S7 k0 k1 k2 k4) (aBin EF .sub 3 (.tmp 25) (.tmp 26) (kCfB_2 k) (kCfB_1 4)) (.int .i64 (.ofNat (9+k - 4))) (as_ (kCfB_8 S7 k0 k1 k2 k4) (aBin EF .gtr 3 (.tmp 23) (.tmp 27) (kCfB_1 5) (.int .i64 (.ofNat (9+k - 4)))) (.bool false) (aa ((kCfB_0 q 39).call 19 (kCfB_4 d 5) (kCfB_8 S7 k0 k1 k2 k4)) (.int .i64 (.ofNat 0),S8) (aa ((kCfB_0 q 39).call 19 (kCfB_4 d 6) S8) (.int .i64 (.ofNat 0),S9) (aa ((kCfB_0 q 39).call 19 (kCfB_4 d 7) S9) (.int .i64 (.ofNat 0),S10) (aa ((kCfB_0 q 39).call 19 (kCfB_4 d 8) S10) (.int .i64 (.ofNat 0),S11) (aa ((kCfB_0 q 47).call 40 [.ptr (some (d,0))] S11) (.int .i64 (.ofNat 0),S12) (al (aLoad EF 49 (.ptr (some (S7.next,1)))) S12 (.clos 115 [.ptr (some (k4,0)),.ptr (some (k0,0))]) (al (kCfB_3 73 k4 0) S12 (.ptr (some (k3,0))) (al (kCfB_3 43 k0 0) S12 (.ptr (some (d,0))) (al (kCfB_3 3 k3 0) S12 (kCfB_1 k) (as_ S12 (aBin EF .gtr 3 (.tmp 9) kCfB_5 (kCfB_1 k) (kCfB_1 0)) (.bool true) (al ((kCfB_0 q 47).call 73 [.ptr (some (d,0))]) S12 (kCfB_2 k) (as_ S12 (aBin EF .eql 3 (.tmp 14) kCfB_5 (kCfB_2 k) (kCfB_1 0)) (.bool false) (al ((kCfB_0 q 45).call 73 [.ptr (some (d,0))]) S12 (kCfB_2 k) (as_ S12 (aBin EF .geq 3 (.tmp 21) (.tmp 23) (kCfB_1 4) (kCfB_2 k)) (.bool false) (al (kCfB_3 24 k3 1) S12 (.int .u64 (.ofNat 0)) (al ((kCfB_0 q 47).call 62 [.int .u64 (.ofNat 0)]) S12 (.agg (bl MB)) (aa ((kCfB_0 q 47).call 19 [.ptr (some (d,0)),.int .i64 (.ofNat 4),.agg (bl MB)] S12) (.int .i64 (.ofNat 0),S13) (aa ((kCfB_0 q 47).call 40 [.ptr (some (d,0))] S13) (.int .i64 (.ofNat 0),S14) (al (aLoad EF 49 (.ptr (some (S7.next,2)))) S14 (.clos 116 [.ptr (some (k0,0))]) (al (kCfB_3 43 k0 0) S14 (.ptr (some (d,0))) (al ((kCfB_0 q 47).call 73 [.ptr (some (d,0))]) S14 (kCfB_2 k) (as_ S14 (aBin EF .eql 3 (.tmp 10) kCfB_5 (kCfB_2 k) (kCfB_1 0)) (.bool false) (al ((kCfB_0 q 45).call 73 [.ptr (some (d,0))]) S14 (kCfB_2 k) (as_ S14 (aBin EF .sub 3 (.tmp 18) kCfB_7 (kCfB_2 k) (kCfB_1 1)) (.int .i64 (.ofNat (9+k - 1))) (as_ S14 (aBin EF .geq 3 (.tmp 16) (.tmp 19) (kCfB_1 2) (.int .i64 (.ofNat (9+k - 1)))) (.bool false) (aa ((kCfB_0 q 48).call 19 (kCfB_4 d 3) S14) (.int .i64 (.ofNat 0),S15) (al ((kCfB_0 q 44).call 61 [.agg [.int .u64 (.ofNat 0),.int .u64 (.ofNat 0),.int .u64 (.ofNat 0),.int .u64 (.ofNat 0),.int .u64 (.ofNat 0),.int .u64 (.ofNat 0),.int .u64 (.ofNat 0),.int .u64 (.ofNat 0),.int .u64 (.ofNat 0),.int .u64 (.ofNat 0),.int .u64 (.ofNat 0),.int .u64 (.ofNat 0),.int .u64 (.ofNat 0),.int .u64 (.ofNat 0),.int .u64 (.ofNat 0),.int .u64 (.ofNat 0),.int .u64 (.ofNat 0),.int .i64 (.ofNat 0),.int .i64 (.ofNat 0)],.int .u64 (.ofNat 1)]) S15 (.tuple [.agg (bl KB),.int .i64 (.ofNat 0)]) (aa (aAlloc EF 54 S15) (.ptr (some (k5,0)),S16) (aa (Option.map (fun s=>(undefA,s)) (aStore EF 54 (.ptr (some (k5,0))) (.agg (bl KB)) S16)) (.tuple [],S17) (al (kCfB_3 54 k5 0) S17 (.agg (bl KB)) (aa (aBox (.agg (bl KB)) S17) (.ptr (some (k6,0)),S18) (al (kCfB_3 54 k6 0) S18 (.agg (bl KB)) (aa ((kCfB_0 q 39).call 19 [.ptr (some (d,0)),.int .i64 (.ofNat 2),.agg (bl KB)] S18) (.int .i64 (.ofNat 0),S19) (aa ((kCfB_0 q 39).call 40 [.ptr (some (d,0))] S19) (.int .i64 (.ofNat 0),S20) (al (aLoad EF 49 (.ptr (some (S7.next,3)))) S20 (.clos 118 [.ptr (some (k0,0)),.ptr (some (k1,0)),.ptr (some (k2,0))]) (al (kCfB_3 43 k0 0) S20 (.ptr (some (d,0))) (al (kCfB_3 27 k1 0) S20 (.agg lnA) (al (kCfB_3 23 k2 0) S20 (kCfB_1 4) (aa (aBox (.agg lnA) S20) (.ptr (some (k7,0)),S21) (al (kCfB_3 27 k7 0) S21 (.agg lnA) (al ((kCfB_0 q 49).call 60 (kCfB_6 1)) S21 (.tuple [.agg (bl SB),.int .i64 (.ofNat 0)]) (aa (aAlloc EF 54 S21) (.ptr (some (k8,0)),S22) (aa (Option.map (fun s=>(undefA,s)) (aStore EF 54 (.ptr (some (k8,0))) (.agg (bl SB)) S22)) (.tuple [],S23) (al ((kCfB_0 q 46).call 73 [.ptr (some (d,0))]) S23 (kCfB_2 k) (as_ S23 (aBin EF .eql 3 (.tmp 20) kCfB_5 (kCfB_2 k) (kCfB_1 0)) (.bool false) (al ((kCfB_0 q 44).call 73 [.ptr (some (d,0))]) S23 (kCfB_2 k) (as_ S23 (aBin EF .lss 3 (.tmp 27) (.const (.int .i64 2)) (kCfB_2 k) (kCfB_1 2)) (.bool false) (aa ((kCfB_0 q 46).call 19 (kCfB_4 d 1) S23) (.int .i64 (.ofNat 0),S24) (al (kCfB_3 54 k8 0) S24 (.agg (bl SB)) (aa ((kCfB_0 q 45).call 19 [.ptr (some (d,0)),.int .i64 (.ofNat 0),.agg (bl SB)] S24) (.int .i64 (.ofNat 0),S25) (aa ((kCfB_0 q 45).call 40 [.ptr (some (d,0))] S25) (.int .i64 (.ofNat 0),S26) (aq (Q (.ptr (some (d,0)),S26)))))))))))))))))))))))))))))))))))))))))))))))))))))))))))))))))))))))))))))))))))))))):=vq (by kernel_rfl)
end Go.Proofs.YtiafochainjglaaGreatDoor.drp.fm
end

section
open Go Go.Ax Go.Proofs
namespace Go.Proofs.YtiafochainjglaaGreatDoor.drp
open dsk
set_option linter.unusedVariables false
theorem least {P:Nat→Prop} (h:∃c,P c):∃c0,P c0∧∀c,P c→c0≤c:=by
 obtain⟨c,hc⟩:=h
 induction c using Nat.strongRecOn with
 | ind c ih =>
  by_cases hx:∃c',c'<c∧P c'
  ·obtain⟨c',h1,h2⟩:=hx
   exact ih c' h1 h2
  ·exact⟨c,hc,fun c' h'=>by
    rcases Nat.lt_or_ge c' c with h1 | h1
    ·exact absurd ⟨c',h1,h'⟩ hx
    ·exact h1⟩
def EvG (base:Nat) (S0:ASt) (d l m n:Nat) (v:AV) (st:ASt) (r:AV×ASt):Prop:=r.1=v∧st.next≤r.2.next∧(∀k,k<st.next→k≠l→k≠m→r.2.h.get k=st.h.get k)∧∀c,DV base S0 d l m n st c→DV base S0 d l m n r.2 (c+1)
def evV (f n:Nat) (args:List AV):AV:=match args with
 | [_,.int _ z,_]=>if z<0∨(n:Int)≤z then .int .i64 (.ofNat 2) else .int .i64 (.ofNat 0)
 | _=>.int .i64 (.ofNat 0)
noncomputable def evC (base:Nat) (S0:ASt) (d l m n:Nat):CallT:=fun f args st=>open Classical in if f=19∨f=40 then (if h:∃r,Call1 Tryz.prog f args st r∧EvG base S0 d l m n (evV f n args) st r then some h.choose else none) else none
theorem evC_ok {base:Nat} {S0:ASt} {d l m n:Nat}:CallsOK Tryz.prog (evC base S0 d l m n):=fun B w0 f args st r hr ι w args' hsr hv=>by
 unfold evC at hr
 split at hr
 ·split at hr
  ·rename_i hh
   simp only[Option.some.injEq] at hr
   subst hr
   exact hh.choose_spec.1 B w0 ι w args' hsr hv
  ·cases hr
 ·cases hr
theorem evC_no {base:Nat} {S0:ASt} {d l m n f:Nat} {args:List AV} {st:ASt} (h1:f≠19) (h2:f≠40):evC base S0 d l m n f args st=none:=by unfold evC;rw[if_neg (fun x=>x.elim h1 h2)]
section
variable {base d l m n c:Nat} {S0 X:ASt} {L:List (Nat×AO)}
theorem evC_at {f:Nat} {args:List AV} (hf:f=19∨f=40) (h:∃r,Call1 Tryz.prog f args X r∧EvG base S0 d l m n (evV f n args) X r):∃X',evC base S0 d l m n f args X=some (evV f n args,X')∧EvG base S0 d l m n (evV f n args) X (evV f n args,X'):=by
 obtain⟨r,hr⟩:∃r,r=h.choose:=⟨_,rfl⟩
 have h2:=h.choose_spec.2
 rw[←hr] at h2
 obtain⟨v,X'⟩:=r
 have hv:v=evV f n args:=h2.1
 subst hv
 exact⟨X',by unfold evC;rw[if_pos hf,dif_pos h,←hr],h2⟩
theorem DV.wr {i:Nat} {b:List Nat} (D:DV base S0 d l m n X c) (hc:c<1000000) (hi:i<n) (hb:byL b):∃X',evC base S0 d l m n 19 [.ptr (some (d,0)),.int .i64 (.ofNat i),.agg (bl b)] X=some (.int .i64 (.ofNat 0),X')∧EvG base S0 d l m n (.int .i64 (.ofNat 0)) X (.int .i64 (.ofNat 0),X'):=by
 obtain⟨c0,⟨las,es,hv⟩,hmin⟩:=least ⟨c,D⟩
 obtain⟨S',es',h1,h2,h3,h4⟩:=hv.write (b:=b) (Nat.lt_of_le_of_lt (hmin c D) hc) hi hb
 have e:evV 19 n [.ptr (some (d,0)),.int .i64 (.ofNat i),.agg (bl b)]=.int .i64 (.ofNat 0):=by
  show (if (Int.ofNat i)<0∨(n:Int)≤(Int.ofNat i) then _ else _)=_
  rw[if_neg (by simp only[Int.ofNat_eq_natCast];omega)]
 have:=evC_at (base:=base) (S0:=S0) (d:=d) (l:=l) (m:=m) (n:=n) (X:=X) (.inl rfl) (args:=[.ptr (some (d,0)),.int .i64 (.ofNat i),.agg (bl b)]) ⟨(.int .i64 (.ofNat 0),S'),h1,e.symm,h3,h4,fun c' hc'=>⟨las,es',h2.mono (by have:=hmin c' hc';omega)⟩⟩
 rw[e] at this
 exact this
theorem DV.fl (D:DV base S0 d l m n X c) (hc:c<1000000) (hn:0<n):∃X',evC base S0 d l m n 40 [.ptr (some (d,0))] X=some (.int .i64 (.ofNat 0),X')∧EvG base S0 d l m n (.int .i64 (.ofNat 0)) X (.int .i64 (.ofNat 0),X'):=by
 obtain⟨c0,⟨las,es,hv⟩,hmin⟩:=least ⟨c,D⟩
 obtain⟨S',las',h1,h2,h3,h4⟩:=hv.flush (Nat.lt_of_le_of_lt (hmin c D) hc) hn
 exact evC_at (.inr rfl) (args:=[.ptr (some (d,0))]) ⟨(.int .i64 (.ofNat 0),S'),h1,rfl,h3,h4,fun c' hc'=>⟨las',[],h2.mono (by have:=hmin c' hc';omega)⟩⟩
structure Ow (l m:Nat) (X:ASt) (L:List (Nat×AO)):Prop where
 loc:∀(i:Nat) (p:Nat×AO),L[i]? = some p→X.h.get p.1=some p.2∧p.1≠l∧p.1≠m
theorem Ow.nil:Ow l m X []:=⟨fun i p h=>by simp at h⟩
theorem DV.keep {X':ASt} (D:DV base S0 d l m n X c) (hn:X.next≤X'.next) (ht:Tidy X') (hk:∀k,k<X.next→X'.h.get k=X.h.get k):DV base S0 d l m n X' c:=by
 obtain⟨las,es,h⟩:=D
 exact⟨las,es,h.keep hn ht hk⟩
theorem DV.tidy (D:DV base S0 d l m n X c):Tidy X:=by obtain⟨las,es,h⟩:=D;exact h.tidy
theorem DV.lm (D:DV base S0 d l m n X c):l<X.next∧m<X.next:=by
 obtain⟨las,es,h⟩:=D
 obtain⟨ck,hd⟩:=h.dk
 exact⟨h.tidy.lt hd.hl,h.tidy.lt hd.hm⟩
theorem Ow.box (o:Ow l m X L) (D:DV base S0 d l m n X c) (a:AO):∃X',X'=X.add a∧Ow l m X' (L++[(X.next,a)])∧DV base S0 d l m n X' c:=by
 have hlm:=D.lm
 refine⟨_,rfl,⟨fun i p hi=>?_⟩,D.keep (by rw[add_next];omega) D.tidy.add (fun k hk=>add_ne (by omega))⟩
 rcases app_one hi with⟨_,hp⟩ | ⟨_,rfl⟩
 ·obtain⟨h1,h2,h3⟩:=o.loc i p hp
  have:=D.tidy.lt h1
  exact⟨by rw[add_ne (by omega)];exact h1,h2,h3⟩
 ·exact⟨add_at,by simp only;omega,by simp only;omega⟩
theorem Ow.freshA {E:Env} {t:TypeId} {z:Nat} (o:Ow l m X L) (D:DV base S0 d l m n X c) (Z V:List AV) (hT:sizT E t=some z) (hz:Z.length=z) (hv:V.length=z):∃X1 X2,X1=X.add (.cells Z true)∧Option.map (fun s=>(undefA,s)) (aStore E t (.ptr (some (X.next,0))) (.agg V) X1)=some (.tuple [],X2)∧Ow l m X2 (L++[(X.next,.cells V true)])∧DV base S0 d l m n X2 c:=by
 have hlm:=D.lm
 have st:aStore E t (.ptr (some (X.next,0))) (.agg V) (X.add (.cells Z true))=some ((X.add (.cells Z true)).put X.next (.cells V true)):=storeW_at hT hv hz add_at
 refine⟨_,_,rfl,okS_of st,⟨fun i p hi=>?_⟩,D.keep (by rw[put_next,add_next];omega) (D.tidy.add.put (by rw[add_next];omega)) (fun k hk=>by rw[put_ne (by omega),add_ne (by omega)])⟩
 rcases app_one hi with⟨_,hp⟩ | ⟨_,rfl⟩
 ·obtain⟨h1,h2,h3⟩:=o.loc i p hp
  have:=D.tidy.lt h1
  exact⟨by rw[put_ne (by omega),add_ne (by omega)];exact h1,h2,h3⟩
 ·exact⟨put_at,by simp only;omega,by simp only;omega⟩
theorem Ow.fresh1 {E:Env} {t:TypeId} (o:Ow l m X L) (D:DV base S0 d l m n X c) (z v:AV) (hT:oneT E t=true) (hv:v.isCell=true):∃X1 X2,X1=X.add (.cells [z] true)∧Option.map (fun s=>(undefA,s)) (aStore E t (.ptr (some (X.next,0))) v X1)=some (.tuple [],X2)∧Ow l m X2 (L++[(X.next,.cells [v] true)])∧DV base S0 d l m n X2 c:=by
 have hlm:=D.lm
 have st:aStore E t (.ptr (some (X.next,0))) v (X.add (.cells [z] true))=some ((X.add (.cells [z] true)).put X.next (.cells [v] true)):=store_at hT add_at (by simp) hv
 refine⟨_,_,rfl,okS_of st,⟨fun i p hi=>?_⟩,D.keep (by rw[put_next,add_next];omega) (D.tidy.add.put (by rw[add_next];omega)) (fun k hk=>by rw[put_ne (by omega),add_ne (by omega)])⟩
 rcases app_one hi with⟨_,hp⟩ | ⟨_,rfl⟩
 ·obtain⟨h1,h2,h3⟩:=o.loc i p hp
  have:=D.tidy.lt h1
  exact⟨by rw[put_ne (by omega),add_ne (by omega)];exact h1,h2,h3⟩
 ·exact⟨put_at,by simp only;omega,by simp only;omega⟩
theorem Ow.ev {v:AV} {X':ASt} (o:Ow l m X L) (D:DV base S0 d l m n X c) (h:EvG base S0 d l m n v X (v,X')):Ow l m X' L∧DV base S0 d l m n X' (c+1) :=
 ⟨⟨fun i p hp=>by
  obtain⟨h1,h2,h3⟩:=o.loc i p hp
  exact⟨by rw[h.2.2.1 p.1 (D.tidy.lt h1) h2 h3];exact h1,h2,h3⟩⟩,h.2.2.2 c D⟩
theorem Ow.wr (o:Ow l m X L) (D:DV base S0 d l m n X c) {i:Nat} {b:List Nat} (hc:c<1000000) (hi:i<n) (hb:byL b):∃X',evC base S0 d l m n 19 [.ptr (some (d,0)),.int .i64 (.ofNat i),.agg (bl b)] X=some (.int .i64 (.ofNat 0),X')∧Ow l m X' L∧DV base S0 d l m n X' (c+1):=by
 obtain⟨X',h1,h2⟩:=D.wr hc hi hb
 exact⟨X',h1,o.ev D h2⟩
theorem Ow.fl (o:Ow l m X L) (D:DV base S0 d l m n X c) (hc:c<1000000) (hn:0<n):∃X',evC base S0 d l m n 40 [.ptr (some (d,0))] X=some (.int .i64 (.ofNat 0),X')∧Ow l m X' L∧DV base S0 d l m n X' (c+1):=by
 obtain⟨X',h1,h2⟩:=D.fl hc hn
 exact⟨X',h1,o.ev D h2⟩
theorem Ow.ld1 {E:Env} {t:TypeId} {i k j:Nat} {cs:List AV} {v:AV} (o:Ow l m X L) (hi:L[i]? = some (k,.cells cs true):=by kernel_rfl) (hT:cellT E t=true:=by kernel_rfl) (hv:cs[j]? = some v:=by kernel_rfl):aLoad E t (.ptr (some (k,j))) X=some (v,X):=load_at hT (o.loc _ _ hi).1 hv
theorem Ow.ldA {E:Env} {t:TypeId} {i k j z:Nat} {cs vs:List AV} (o:Ow l m X L) (hi:L[i]? = some (k,.cells cs true):=by kernel_rfl) (hT:aggT E t=some z:=by kernel_rfl) (hv:takeL cs j z=some vs:=by kernel_rfl):aLoad E t (.ptr (some (k,j))) X=some (.agg vs,X):=load_agg hT (o.loc _ _ hi).1 hv
end
noncomputable def dvC (base:Nat) (S0:ASt) (d l m n:Nat):CallT:=fun f args st=>open Classical in if f=73∧args=[.ptr (some (d,0))]∧∃c,DV base S0 d l m n st c∧c<1000000 then some (.int .i64 (.ofNat n),st) else none
theorem dvC_ok {base:Nat} {S0:ASt} {d l m n:Nat}:CallsOK Tryz.prog (dvC base S0 d l m n):=fun B w0 f args st r hr ι w args' hsr hv=>by
 unfold dvC at hr
 split at hr
 ·rename_i hh
  obtain⟨rfl,rfl,c,⟨las,es,h⟩,hc⟩:=hh
  simp only[Option.some.injEq] at hr
  subst hr
  have:=blocks_p (h.dsk hc)
  rw[h.len] at this
  exact this B w0 ι w args' hsr hv
 ·cases hr
theorem dvC_at {base:Nat} {S0 X:ASt} {d l m n c:Nat} (D:DV base S0 d l m n X c) (hc:c<1000000):dvC base S0 d l m n 73 [.ptr (some (d,0))] X=some (.int .i64 (.ofNat n),X):=by unfold dvC;rw[if_pos ⟨rfl,rfl,c,D,hc⟩]
theorem dvC_no {base:Nat} {S0 X:ASt} {d l m n f:Nat} {args:List AV} (h:f≠73):dvC base S0 d l m n f args X=none:=by unfold dvC;rw[if_neg (fun x=>h x.1)]
noncomputable def oneC (k:Nat) (ar:List AV) (S:ASt) (r:AV×ASt):CallT:=fun f args st=>open Classical in if f=k∧args=ar∧st=S then some r else none
theorem oneC_ok {k:Nat} {ar:List AV} {S:ASt} {r:AV×ASt} (h:Call1 Tryz.prog k ar S r):CallsOK Tryz.prog (oneC k ar S r):=fun B w0 f args st r' hr ι w args' hsr hv=>by
 unfold oneC at hr
 split at hr
 ·rename_i hh
  obtain⟨rfl,rfl,rfl⟩:=hh
  simp only[Option.some.injEq] at hr
  subst hr
  exact h B w0 ι w args' hsr hv
 ·cases hr
theorem oneC_at {k:Nat} {ar:List AV} {S:ASt} {r:AV×ASt}:oneC k ar S r k ar S=some r:=by unfold oneC;rw[if_pos ⟨rfl,rfl,rfl⟩]
theorem oneC_no {k f:Nat} {ar args:List AV} {S X:ASt} {r:AV×ASt} (h:f≠k):oneC k ar S r f args X=none:=by unfold oneC;rw[if_neg (fun x=>h x.1)]
theorem seal_by {H:List Nat→Nat→Nat} (hH:∀l i,H l i<256) {l:List Nat} (h:∀x,x∈l→x<256):byL (cd.sealN H l):=fun j=>by
 have hm:∀x,x∈cd.sealN H l→x<256:=fun x hx=>by
  unfold cd.sealN at hx
  rcases List.mem_append.1 hx with hx | hx
  ·exact cd.hd8_by h x hx
  ·simp only[cd.first8,List.mem_cons,List.not_mem_nil,or_false] at hx
   rcases hx with rfl | rfl | rfl | rfl | rfl | rfl | rfl | rfl<;>exact hH _ _
 rw[List.getD_eq_getElem?_getD]
 cases h3:(cd.sealN H l)[j]? with
 | some b=>exact hm b (List.mem_of_getElem? h3)
 | none=>show 0<256;decide
theorem resB_by (X:List Nat→Nat) (n g t h:Nat) (ys:Nat→Nat):byL (cd9.resB X n g t h ys):=fun j=>by
 have hm:∀x,x∈cd9.resB X n g t h ys→x<256:=fun x hx=>by
  unfold cd9.resB at hx
  rcases List.mem_append.1 hx with hx | hx
  ·exact cd.hd8_by (cd2.resL_by n g t h ys) x hx
  ·exact cd.be8_by _ x hx
 rw[List.getD_eq_getElem?_getD]
 cases h3:(cd9.resB X n g t h ys)[j]? with
 | some b=>exact hm b (List.mem_of_getElem? h3)
 | none=>show 0<256;decide
end Go.Proofs.YtiafochainjglaaGreatDoor.drp
end

section
open Go Go.Ax Go.Proofs
namespace Go.Proofs.YtiafochainjglaaGreatDoor.drp.fm
set_option linter.unusedVariables false
open cd (sealN mapL supL supA atMB)
open cd9 (resM resB blkKt pureC pureC_ok pureC_at pureC_no)
open cd2 (resA UK)
open cd3 cd4 cd5 sh dsk
theorem EFok:Env.Ok Tryz.prog EF:=envEx_ok (xs:=[]) ⟨⟨Tryz.func14,Tryz.call14⟩,⟨Tryz.func52,Tryz.call52⟩,⟨Tryz.func78,Tryz.call78⟩,⟨Tryz.func120,Tryz.call120⟩,⟨Tryz.func81,Tryz.call81⟩,⟨Tryz.func113,Tryz.call113⟩,⟨Tryz.func114,Tryz.call114⟩,⟨Tryz.func140,Tryz.call140⟩,⟨Tryz.func115,Tryz.call115⟩,⟨Tryz.func84,Tryz.call84⟩,⟨Tryz.func142,Tryz.call142⟩,⟨Tryz.func116,Tryz.call116⟩,⟨Tryz.func117,Tryz.call117⟩,⟨Tryz.func147,Tryz.call147⟩,⟨Tryz.func118,Tryz.call118⟩,⟨Tryz.func119,Tryz.call119⟩,trivial⟩ trivial (by kernel_rfl)
section
variable {Y:ASt} {a b:Nat} {x y:Operand}
theorem lssG:still Y (aBin EF .lss 3 x y (.int .i64 (.ofNat a)) (.int .i64 (.ofNat b)))=some (.bool (decide (a<b)),Y):=by
 have e:aBin EF .lss 3 x y (.int .i64 (.ofNat a)) (.int .i64 (.ofNat b))=some (.bool (ltF (.ofNat a) (.ofNat b))):=by kernel_rfl
 rw[ltF_nn] at e
 exact still_of e
theorem gtrG:still Y (aBin EF .gtr 3 x y (.int .i64 (.ofNat a)) (.int .i64 (.ofNat b)))=some (.bool (decide (b<a)),Y):=by
 have e:aBin EF .gtr 3 x y (.int .i64 (.ofNat a)) (.int .i64 (.ofNat b))=some (.bool (ltF (.ofNat b) (.ofNat a))):=by kernel_rfl
 rw[ltF_nn] at e
 exact still_of e
theorem geqG:still Y (aBin EF .geq 3 x y (.int .i64 (.ofNat a)) (.int .i64 (.ofNat b)))=some (.bool (!decide (a<b)),Y):=by
 have e:aBin EF .geq 3 x y (.int .i64 (.ofNat a)) (.int .i64 (.ofNat b))=some (.bool (!ltF (.ofNat a) (.ofNat b))):=by kernel_rfl
 rw[ltF_nn] at e
 exact still_of e
theorem lssE (h:1≤a):still Y (aBin EF .lss 3 x y (.int .i64 (.ofNat a)) (.int .i64 (.ofNat 1)))=some (.bool false,Y):=by rw[lssG,decide_eq_false (by omega)]
theorem gtrE (h:a≤64):still Y (aBin EF .gtr 3 x y (.int .i64 (.ofNat a)) (.int .i64 (.ofNat 64)))=some (.bool false,Y):=by rw[gtrG,decide_eq_false (by omega)]
theorem gtrF (h:a≤b):still Y (aBin EF .gtr 3 x y (.int .i64 (.ofNat a)) (.int .i64 (.ofNat b)))=some (.bool false,Y):=by rw[gtrG,decide_eq_false (by omega)]
theorem gtrT (h:b<a):still Y (aBin EF .gtr 3 x y (.int .i64 (.ofNat a)) (.int .i64 (.ofNat b)))=some (.bool true,Y):=by rw[gtrG,decide_eq_true (by omega)]
theorem geqE (h:a<b):still Y (aBin EF .geq 3 x y (.int .i64 (.ofNat a)) (.int .i64 (.ofNat b)))=some (.bool false,Y):=by rw[geqG,decide_eq_true h];rfl
theorem lssF2 (h:b≤a):still Y (aBin EF .lss 3 x y (.int .i64 (.ofNat a)) (.int .i64 (.ofNat b)))=some (.bool false,Y):=by rw[lssG,decide_eq_false (by omega)]
theorem eqE (h:a≠b):still Y (aBin EF .eql 3 x y (.int .i64 (.ofNat a)) (.int .i64 (.ofNat b)))=some (.bool false,Y):=by
 have e:aBin EF .eql 3 x y (.int .i64 (.ofNat a)) (.int .i64 (.ofNat b))=some (.bool (eqF (.ofNat a) (.ofNat b))):=by kernel_rfl
 rw[oo.eqF_nn,decide_eq_false h] at e
 exact still_of e
theorem neqE:still Y (aBin EF .neq 3 x y (.int .i64 (.ofNat a)) (.int .i64 (.ofNat a)))=some (.bool false,Y):=by
 have e:aBin EF .neq 3 x y (.int .i64 (.ofNat a)) (.int .i64 (.ofNat a))=some (.bool (!eqF (.ofNat a) (.ofNat a))):=by kernel_rfl
 rw[oo.eqF_nn,decide_eq_true rfl] at e
 exact still_of e
theorem addE (h:a+b<1000000):still Y (aBin EF .add 3 x y (.int .i64 (.ofNat a)) (.int .i64 (.ofNat b)))=some (.int .i64 (.ofNat (a+b)),Y):=by
 have e:aBin EF .add 3 x y (.int .i64 (.ofNat a)) (.int .i64 (.ofNat b))=some (.int .i64 (wrapF .i64 (.ofNat a+.ofNat b))):=by kernel_rfl
 rw[show (Int.ofNat a+Int.ofNat b)=Int.ofNat (a+b) from rfl,wrap_nat (by omega)] at e
 exact still_of e
theorem subE (h:b≤a) (h2:a<1000000):still Y (aBin EF .sub 3 x y (.int .i64 (.ofNat a)) (.int .i64 (.ofNat b)))=some (.int .i64 (.ofNat (a - b)),Y):=by
 have e:aBin EF .sub 3 x y (.int .i64 (.ofNat a)) (.int .i64 (.ofNat b))=some (.int .i64 (wrapF .i64 (.ofNat a - .ofNat b))):=by kernel_rfl
 have e2:(Int.ofNat a - Int.ofNat b)=Int.ofNat (a - b):=by
  show (a:Int) - (b:Int)=((a - b:Nat):Int)
  omega
 rw[e2,wrap_nat (by omega)] at e
 exact still_of e
end
noncomputable def bM:List Nat:=sealN HH (mapL 0)
noncomputable def bK:List Nat:=resB XX 1 0 0 0 (fun _=>0)
noncomputable def bS:List Nat:=sealN HH (supL 4 0 1 7 0 0 0)
theorem bM_at (S:ASt):Call1 Tryz.prog 62 [.int .u64 (.ofNat 0)] S (.agg (bl bM),S):=atMB sumsP (by decide) S
theorem bK_at (S:ASt):Call1 Tryz.prog 61 [resA 0 0 0 (fun _=>0),.int .u64 (.ofNat 1)] S (.tuple [.agg (bl bK),.int .i64 (.ofNat 0)],S):=blkKt shortsP ⟨by decide,by decide,by decide,by decide,fun _=>by decide⟩ (by kernel_rfl) S
theorem bS_at (S:ASt):Call1 Tryz.prog 60 [supA 4 false 7 0 0 0 1] S (.tuple [.agg (bl bS),.int .i64 (.ofNat 0)],S):=(supOwn sumsP).yes S ⟨by decide,by decide,by decide,by decide,by decide,by decide⟩ rfl
theorem bMay_at (S:ASt):Call1 Tryz.prog 76 [supA 4 false 7 0 0 0 0] S (.bool true,S):=mayO S
theorem formatted_p {S:ASt} {k:Nat} (ht:Tidy S) (h1:1≤k) (h2:k≤64):∃S' d l m c,Call1 Tryz.prog 14 [.int .i64 (.ofNat k)] S (.ptr (some (d,0)),S')∧DV S.next S d l m (9+k) S' c∧c≤100:=by
 have hMB:byL bM:=seal_by sumsP.lt (cd.mapL_by 0)
 have hKB:byL bK:=fun j=>resB_by XX 1 0 0 0 (fun _=>0) j
 have hSB:byL bS:=seal_by sumsP.lt (cd.supL_by _ _ _ _ _ _ _ (by decide))
 obtain⟨S1,d,l,m,hc13,hv⟩:=Dv.new ht (n:=9+k) (by omega) (by omega)
 have d1:DV S.next S d l m (9+k) S1 0:=⟨_,_,hv⟩
 have o1:Ow l m S1 []:=Ow.nil
 have hok:=orC_ok (oneC_ok hc13) (orC_ok (evC_ok (base:=S.next) (S0:=S) (d:=d) (l:=l) (m:=m) (n:=9+k)) (orC_ok (dvC_ok (base:=S.next) (S0:=S) (d:=d) (l:=l) (m:=m) (n:=9+k)) (orC_ok (pureC_ok bMay_at) (orC_ok (pureC_ok bM_at) (orC_ok (pureC_ok bK_at) (pureC_ok bS_at))))))
 obtain⟨q,hq⟩:∃q,q=orC (oneC 13 [dsk.nI (9+k)] S (.tuple [pO d,dsk.nI 0],S1)) (orC (evC S.next S d l m (9+k)) (orC (dvC S.next S d l m (9+k)) (orC (pureC 76 [supA 4 false 7 0 0 0 0] (.bool true)) (orC (pureC 62 [.int .u64 (.ofNat 0)] (.agg (bl bM))) (orC (pureC 61 [resA 0 0 0 (fun _=>0),.int .u64 (.ofNat 1)] (.tuple [.agg (bl bK),.int .i64 (.ofNat 0)])) (pureC 60 [supA 4 false 7 0 0 0 1] (.tuple [.agg (bl bS),.int .i64 (.ofNat 0)]))))))):=⟨_,rfl⟩
 rw[←hq] at hok
 have hnew:q 13 [.int .i64 (.ofNat (9+k))] S=some (.tuple [.ptr (some (d,0)),.int .i64 (.ofNat 0)],S1):=by rw[hq];exact orC_l oneC_at
 have hev:∀{f:Nat} {args:List AV} {Y:ASt} {r:AV×ASt},evC S.next S d l m (9+k) f args Y=some r→q f args Y=some r:=fun {f args Y r} h=>by
  rw[hq]
  have hf:f≠13:=fun e=>by subst e;rw[evC_no (by decide) (by decide)] at h;cases h
  exact orC_r (oneC_no hf) (orC_l h)
 have hblk:∀{Y:ASt} {c:Nat},DV S.next S d l m (9+k) Y c→c<1000000→q 73 [.ptr (some (d,0))] Y=some (.int .i64 (.ofNat (9+k)),Y):=fun h hc=>by rw[hq];exact orC_r (oneC_no (by decide)) (orC_r (evC_no (by decide) (by decide)) (orC_l (dvC_at h hc)))
 have hmay:∀Y,q 76 [supA 4 false 7 0 0 0 0] Y=some (.bool true,Y):=fun Y=>by rw[hq];exact orC_r (oneC_no (by decide)) (orC_r (evC_no (by decide) (by decide)) (orC_r (dvC_no (by decide)) (orC_l (pureC_at ..))))
 have hmb:∀Y,q 62 [.int .u64 (.ofNat 0)] Y=some (.agg (bl bM),Y):=fun Y=>by rw[hq];exact orC_r (oneC_no (by decide)) (orC_r (evC_no (by decide) (by decide)) (orC_r (dvC_no (by decide)) (orC_r (pureC_no (by decide)) (orC_l (pureC_at ..)))))
 have hkb:∀Y,q 61 [resA 0 0 0 (fun _=>0),.int .u64 (.ofNat 1)] Y=some (.tuple [.agg (bl bK),.int .i64 (.ofNat 0)],Y):=fun Y=>by rw[hq];exact orC_r (oneC_no (by decide)) (orC_r (evC_no (by decide) (by decide)) (orC_r (dvC_no (by decide)) (orC_r (pureC_no (by decide)) (orC_r (pureC_no (by decide)) (orC_l (pureC_at ..))))))
 have hsb:∀Y,q 60 [supA 4 false 7 0 0 0 1] Y=some (.tuple [.agg (bl bS),.int .i64 (.ofNat 0)],Y):=fun Y=>by rw[hq];exact orC_r (oneC_no (by decide)) (orC_r (evC_no (by decide) (by decide)) (orC_r (dvC_no (by decide)) (orC_r (pureC_no (by decide)) (orC_r (pureC_no (by decide)) (orC_r (pureC_no (by decide)) (pureC_at ..))))))
 obtain⟨S2,e2,o2,d2⟩:=o1.box d1 (.cells [.ptr (some (d,0))] true)
 obtain⟨S3,e3,o3,d3⟩:=o2.box d2 (.cells lnA true)
 obtain⟨S4,e4,o4,d4⟩:=o3.box d3 (.cells [.int .i64 (.ofNat 4)] true)
 obtain⟨S5,e5,o5,d5⟩:=o4.box d4 (.cells ([.int .i64 (.ofNat k)]++[.int .u64 (.ofNat 0)]) true)
 obtain⟨S6,S7,e6,e7,o7,d7⟩:=o5.fresh1 (E:=EF) (t:=73) d5 (.ptr none) (.ptr (some (S4.next,0))) (by kernel_rfl) rfl
 obtain⟨SX,eX,oX,dX⟩:=o7.box d7 (.cells [.clos 113 [.ptr (some (S1.next,0))],.clos 115 [.ptr (some (S5.next,0)),.ptr (some (S1.next,0))],.clos 116 [.ptr (some (S1.next,0))],.clos 118 [.ptr (some (S1.next,0)),.ptr (some (S2.next,0)),.ptr (some (S3.next,0))]] true)
 rw[eX] at oX dX
 obtain⟨S8,w8,o8,d8⟩:=oX.wr dX (i:=5) (b:=[]) (by omega) (by omega) byL_nil
 obtain⟨S9,w9,o9,d9⟩:=o8.wr d8 (i:=6) (b:=[]) (by omega) (by omega) byL_nil
 obtain⟨S10,w10,o10,d10⟩:=o9.wr d9 (i:=7) (b:=[]) (by omega) (by omega) byL_nil
 obtain⟨S11,w11,o11,d11⟩:=o10.wr d10 (i:=8) (b:=[]) (by omega) (by omega) byL_nil
 obtain⟨S12,w12,o12,d12⟩:=o11.fl d11 (by omega) (by omega)
 obtain⟨S13,w13,o13,d13⟩:=o12.wr d12 (i:=4) (b:=bM) (by omega) (by omega) hMB
 obtain⟨S14,w14,o14,d14⟩:=o13.fl d13 (by omega) (by omega)
 obtain⟨S15,w15,o15,d15⟩:=o14.wr d14 (i:=3) (b:=[]) (by omega) (by omega) byL_nil
 obtain⟨S16,S17,e16,e17,o17,d17⟩:=o15.freshA (E:=EF) (t:=54) (z:=256) d15 (bl []) (bl bK) (by kernel_rfl) (bl_len _) (bl_len _)
 obtain⟨S18,e18,o18,d18⟩:=o17.box d17 (.cells (bl bK) true)
 obtain⟨S19,w19,o19,d19⟩:=o18.wr d18 (i:=2) (b:=bK) (by omega) (by omega) hKB
 obtain⟨S20,w20,o20,d20⟩:=o19.fl d19 (by omega) (by omega)
 obtain⟨S21,e21,o21,d21⟩:=o20.box d20 (.cells lnA true)
 obtain⟨S22,S23,e22,e23,o23,d23⟩:=o21.freshA (E:=EF) (t:=54) (z:=256) d21 (bl []) (bl bS) (by kernel_rfl) (bl_len _) (bl_len _)
 obtain⟨S24,w24,o24,d24⟩:=o23.wr d23 (i:=1) (b:=[]) (by omega) (by omega) byL_nil
 obtain⟨S25,w25,o25,d25⟩:=o24.wr d24 (i:=0) (b:=bS) (by omega) (by omega) hSB
 obtain⟨S26,w26,o26,d26⟩:=o25.fl d25 (by omega) (by omega)
 refine⟨S26,d,l,m,_,Call1.of_tm EFok (onlyC_ok hok) (Eq.mp (vcFm q d k (S1.next) (S2.next) (S3.next) (S4.next) (S5.next) (S15.next) (S17.next) (S20.next) (S21.next) bM bK bS S S1 S2 S3 S4 S5 S6 S7 S8 S9 S10 S11 S12 S13 S14 S15 S16 S17 S18 S19 S20 S21 S22 S23 S24 S25 S26 (fun r=>r=(.ptr (some (d,0)),S26))) ?_),d26,by omega⟩
 exact⟨lssE h1,gtrE h2,addE (by omega),ca (hnew),(by rw[e2];rfl),(by rw[e3];rfl),(by rw[e4];rfl),o4.ld1 (i:=0) (cs:=[.ptr (some (d,0))]),ca (hblk d4 (by omega)),eqE (by omega),lssE h1,gtrE h2,addE (by omega),eqE (by omega),ca (hblk d4 (by omega)),lssE h1,gtrE h2,addE (by omega),neqE,o4.ld1 (i:=2) (cs:=[.int .i64 (.ofNat 4)]),o4.ldA (i:=1) (z:=4) (cs:=lnA),ca (hmay _),lssE h1,gtrE h2,(by rw[e5];rfl),(by rw[e6];kernel_rfl),e7,oX.ld1 (i:=5) (cs:=[.clos 113 [.ptr (some (S1.next,0))],.clos 115 [.ptr (some (S5.next,0)),.ptr (some (S1.next,0))],.clos 116 [.ptr (some (S1.next,0))],.clos 118 [.ptr (some (S1.next,0)),.ptr (some (S2.next,0)),.ptr (some (S3.next,0))]]),oX.ld1 (i:=0) (cs:=[.ptr (some (d,0))]),ca (hblk dX (by omega)),eqE (by omega),ca (hblk dX (by omega)),subE (by omega) (by omega),gtrF (by omega),ca (hev w8),ca (hev w9),ca (hev w10),ca (hev w11),ca (hev w12),o12.ld1 (i:=5) (cs:=[.clos 113 [.ptr (some (S1.next,0))],.clos 115 [.ptr (some (S5.next,0)),.ptr (some (S1.next,0))],.clos 116 [.ptr (some (S1.next,0))],.clos 118 [.ptr (some (S1.next,0)),.ptr (some (S2.next,0)),.ptr (some (S3.next,0))]]),o12.ld1 (i:=4) (cs:=[.ptr (some (S4.next,0))]),o12.ld1 (i:=0) (cs:=[.ptr (some (d,0))]),o12.ld1 (i:=3) (cs:=([.int .i64 (.ofNat k)]++[.int .u64 (.ofNat 0)])),gtrT (by omega),ca (hblk d12 (by omega)),eqE (by omega),ca (hblk d12 (by omega)),geqE (by omega),o12.ld1 (i:=3) (cs:=([.int .i64 (.ofNat k)]++[.int .u64 (.ofNat 0)])),ca (hmb _),ca (hev w13),ca (hev w14),o14.ld1 (i:=5) (cs:=[.clos 113 [.ptr (some (S1.next,0))],.clos 115 [.ptr (some (S5.next,0)),.ptr (some (S1.next,0))],.clos 116 [.ptr (some (S1.next,0))],.clos 118 [.ptr (some (S1.next,0)),.ptr (some (S2.next,0)),.ptr (some (S3.next,0))]]),o14.ld1 (i:=0) (cs:=[.ptr (some (d,0))]),ca (hblk d14 (by omega)),eqE (by omega),ca (hblk d14 (by omega)),subE (by omega) (by omega),geqE (by omega),ca (hev w15),ca (hkb _),(by rw[e16];kernel_rfl),e17,o17.ldA (i:=6) (z:=256) (cs:=(bl bK)),(by rw[e18];rfl),o18.ldA (i:=7) (z:=256) (cs:=(bl bK)),ca (hev w19),ca (hev w20),o20.ld1 (i:=5) (cs:=[.clos 113 [.ptr (some (S1.next,0))],.clos 115 [.ptr (some (S5.next,0)),.ptr (some (S1.next,0))],.clos 116 [.ptr (some (S1.next,0))],.clos 118 [.ptr (some (S1.next,0)),.ptr (some (S2.next,0)),.ptr (some (S3.next,0))]]),o20.ld1 (i:=0) (cs:=[.ptr (some (d,0))]),o20.ldA (i:=1) (z:=4) (cs:=lnA),o20.ld1 (i:=2) (cs:=[.int .i64 (.ofNat 4)]),(by rw[e21];rfl),o21.ldA (i:=8) (z:=4) (cs:=lnA),ca (hsb _),(by rw[e22];kernel_rfl),e23,ca (hblk d23 (by omega)),eqE (by omega),ca (hblk d23 (by omega)),lssF2 (by omega),ca (hev w24),o24.ldA (i:=9) (z:=256) (cs:=(bl bS)),ca (hev w25),ca (hev w26),rfl⟩
end Go.Proofs.YtiafochainjglaaGreatDoor.drp.fm
end
