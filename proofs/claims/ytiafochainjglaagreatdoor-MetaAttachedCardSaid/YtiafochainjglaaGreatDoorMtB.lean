/-
  OWN WORK, A PART: an abstract machine for the program's text that the kernel can run, and the proof that it is sound: what it answers is what the program answers; contracts of functions by it. No condition.
-/
import Derived.Test.YtiafochainjglaaGreatDoorMtA
import Derived.Test.YtiafochainjglaaGreatDoorRows
import Derived.Test.YtiafochainjglaaGreatDoorWaF
import Derived.KernelRfl
section
open Go Go.Ax Go.Proofs
namespace Go.Proofs.YtiafochainjglaaGreatDoor.cd3
set_option linter.unusedVariables false
noncomputable def fnsF:List (Nat×Func):=[(57,Tryz.f57),(59,Tryz.f59),(71,Tryz.f71),(72,Tryz.f72),(133,Tryz.f133)]
noncomputable def EF:Env:=envEx Tryz.prog [0,3,4,5,24,34,37,54,75,176] fnsF []
def fl0:Fl:=⟨[],[],[],[]⟩
noncomputable def flF:List (Nat×Fl):=[(57,⟨[17,20,23],[],[],[]⟩),(59,⟨[18,27,30,33],[],[],[]⟩),(71,⟨[8,10],[6],[],[]⟩),(72,⟨[16,19,21],[8],[],[]⟩),(133,⟨[18],[],[],[]⟩)]
noncomputable abbrev kCdJ_5 (a:CallT):=TM EF (onlyC [62,63,97,98,123] a) flF fl0 60
noncomputable def tOMt (q:CallT) (w:Nat→Nat) (u:Nat) (B C:List Nat):Tr (AV×ASt):=(kCdJ_5 q).call 57 [.agg (bl B)] (mkSt [] 1)
noncomputable def tOMf (q:CallT) (w:Nat→Nat) (u:Nat) (B C:List Nat):Tr (AV×ASt):=(kCdJ_5 q).call 57 [.agg (bl B)] (mkSt [] 1)
noncomputable def tOLt (q:CallT) (w:Nat→Nat) (u:Nat) (B C:List Nat):Tr (AV×ASt):=(kCdJ_5 q).call 59 [.agg (bl B)] (mkSt [] 1)
noncomputable def tOLf (q:CallT) (w:Nat→Nat) (u:Nat) (B C:List Nat):Tr (AV×ASt):=(kCdJ_5 q).call 59 [.agg (bl B)] (mkSt [] 1)
noncomputable def vcOMt_s0 (B:List Nat):ASt:=mkSt [(1,.cells (bl B) true)] 2
noncomputable def vcOMt_s1 (B C:List Nat):ASt:=upS (vcOMt_s0 B) [(2,.cells (bl C) true)] 7
noncomputable def vcOMt_s2:ASt:=mkSt [] 7
noncomputable abbrev kCdJ_6 (a:List Nat) (b:Nat):=Int.ofNat (List.getD a b 0)
noncomputable abbrev kCdJ_3 (a:List Nat) (b:Nat):=AV.int .u64 (wrapF .u64 (kCdJ_6 a b))
noncomputable abbrev kCdJ_1 (a b c:Nat) (d:List Nat) (e:Nat):=aBin EF BinOp.or 24 (Operand.tmp a) (Operand.tmp b) (AV.int .u64 (shlF .u64 (.ofNat c) 8)) (kCdJ_3 d e)
noncomputable abbrev kCdJ_2 (a:Nat):=AV.int .u64 (.ofNat a)
noncomputable abbrev kCdJ_4 (a:CallT) (b:Nat):=M EF (drawA EF) (onlyC [62,63,97,98,123] a) b
noncomputable abbrev kCdJ_7:List AV:=[.slice (some (2,0)) 256 (.known 256),.slice (some (1,0)) 256 (.known 256)]
noncomputable abbrev kCdJ_12 (a b:Nat) (c:List Nat):=aBin EF BinOp.or 24 (Operand.tmp a) (Operand.tmp b) (kCdJ_2 0) (kCdJ_3 c 4)
theorem vcOMt (q:CallT) (w:Nat→Nat) (u:Nat) (B C:List Nat) (Q:AV×ASt→Prop) :
 Vq (tOMt q w u B C) (fun r=>Q (r.1,canS [] r.2)) (as_ (vcOMt_s0 B) (kCdJ_12 14 16 B) (kCdJ_2 (w 1)) (as_ (vcOMt_s0 B) (kCdJ_1 14 16 (w 1) B 5) (kCdJ_2 (w 2)) (as_ (vcOMt_s0 B) (kCdJ_1 14 16 (w 2) B 6) (kCdJ_2 (w 3)) (as_ (vcOMt_s0 B) (kCdJ_1 14 16 (w 3) B 7) (kCdJ_2 (w 4)) (as_ (vcOMt_s0 B) (kCdJ_1 14 16 (w 4) B 8) (kCdJ_2 (w 5)) (as_ (vcOMt_s0 B) (kCdJ_1 14 16 (w 5) B 9) (kCdJ_2 (w 6)) (as_ (vcOMt_s0 B) (kCdJ_1 14 16 (w 6) B 10) (kCdJ_2 (w 7)) (as_ (vcOMt_s0 B) (kCdJ_1 14 16 (w 7) B 11) (kCdJ_2 (w 8)) (al ((kCdJ_4 q 54).call 62 [.int .u64 (.ofNat (w 8))]) (vcOMt_s0 B) (.agg (bl C)) (al ((kCdJ_4 q 53).call 123 kCdJ_7) (vcOMt_s1 B C) (.bool true) (ah (holdsO []) (aq (Q (.tuple [.int .u64 (.ofNat (w 8)),.int .i64 (.ofNat 0)],vcOMt_s2)))))))))))))):=vq (by kernel_rfl)
noncomputable def vcOMf_s0 (B:List Nat):ASt:=mkSt [(1,.cells (bl B) true)] 2
noncomputable def vcOMf_s1 (B C:List Nat):ASt:=upS (vcOMf_s0 B) [(2,.cells (bl C) true)] 7
noncomputable def vcOMf_s2:ASt:=mkSt [] 7
theorem vcOMf (q:CallT) (w:Nat→Nat) (u:Nat) (B C:List Nat) (Q:AV×ASt→Prop) :
 Vq (tOMf q w u B C) (fun r=>Q (r.1,canS [] r.2)) (as_ (vcOMf_s0 B) (kCdJ_12 14 16 B) (kCdJ_2 (w 1)) (as_ (vcOMf_s0 B) (kCdJ_1 14 16 (w 1) B 5) (kCdJ_2 (w 2)) (as_ (vcOMf_s0 B) (kCdJ_1 14 16 (w 2) B 6) (kCdJ_2 (w 3)) (as_ (vcOMf_s0 B) (kCdJ_1 14 16 (w 3) B 7) (kCdJ_2 (w 4)) (as_ (vcOMf_s0 B) (kCdJ_1 14 16 (w 4) B 8) (kCdJ_2 (w 5)) (as_ (vcOMf_s0 B) (kCdJ_1 14 16 (w 5) B 9) (kCdJ_2 (w 6)) (as_ (vcOMf_s0 B) (kCdJ_1 14 16 (w 6) B 10) (kCdJ_2 (w 7)) (as_ (vcOMf_s0 B) (kCdJ_1 14 16 (w 7) B 11) (kCdJ_2 (w 8)) (al ((kCdJ_4 q 54).call 62 [.int .u64 (.ofNat (w 8))]) (vcOMf_s0 B) (.agg (bl C)) (al ((kCdJ_4 q 53).call 123 kCdJ_7) (vcOMf_s1 B C) (.bool false) (ah (holdsO []) (aq (Q (.tuple [.int .u64 (.ofNat 0),.int .i64 (.ofNat 4)],vcOMf_s2)))))))))))))):=vq (by kernel_rfl)
noncomputable def vcOLt_s0 (B:List Nat):ASt:=mkSt [(1,.cells (bl B) true)] 2
noncomputable def vcOLt_s1 (B C:List Nat):ASt:=upS (vcOLt_s0 B) [(2,.cells (bl C) true)] 7
noncomputable def vcOLt_s2:ASt:=mkSt [] 7
noncomputable abbrev kCdJ_10 (a:List Nat):=aBin EF BinOp.or 34 (Operand.tmp 23) (Operand.tmp 26) (AV.int .u16 (shlF .u16 (wrapF .u16 (kCdJ_6 a 12)) 8)) (AV.int .u16 (wrapF .u16 (kCdJ_6 a 13)))
noncomputable abbrev kCdJ_13 (a b:Nat):List AV:=[.int .u64 (.ofNat a),.int .u16 (.ofNat b)]
theorem vcOLt (q:CallT) (w:Nat→Nat) (u:Nat) (B C:List Nat) (Q:AV×ASt→Prop) :
 Vq (tOLt q w u B C) (fun r=>Q (r.1,canS [] r.2)) (as_ (vcOLt_s0 B) (kCdJ_12 15 17 B) (kCdJ_2 (w 1)) (as_ (vcOLt_s0 B) (kCdJ_1 15 17 (w 1) B 5) (kCdJ_2 (w 2)) (as_ (vcOLt_s0 B) (kCdJ_1 15 17 (w 2) B 6) (kCdJ_2 (w 3)) (as_ (vcOLt_s0 B) (kCdJ_1 15 17 (w 3) B 7) (kCdJ_2 (w 4)) (as_ (vcOLt_s0 B) (kCdJ_1 15 17 (w 4) B 8) (kCdJ_2 (w 5)) (as_ (vcOLt_s0 B) (kCdJ_1 15 17 (w 5) B 9) (kCdJ_2 (w 6)) (as_ (vcOLt_s0 B) (kCdJ_1 15 17 (w 6) B 10) (kCdJ_2 (w 7)) (as_ (vcOLt_s0 B) (kCdJ_1 15 17 (w 7) B 11) (kCdJ_2 (w 8)) (as_ (vcOLt_s0 B) (kCdJ_10 B) (.int .u16 (.ofNat u)) (al ((kCdJ_4 q 53).call 63 (kCdJ_13 (w 8) u)) (vcOLt_s0 B) (.agg (bl C)) (al ((kCdJ_4 q 52).call 123 kCdJ_7) (vcOLt_s1 B C) (.bool true) (ah (holdsO []) (aq (Q (.tuple [.int .u64 (.ofNat (w 8)),.int .u16 (.ofNat u),.int .i64 (.ofNat 0)],vcOLt_s2))))))))))))))):=vq (by kernel_rfl)
noncomputable def vcOLf_s0 (B:List Nat):ASt:=mkSt [(1,.cells (bl B) true)] 2
noncomputable def vcOLf_s1 (B C:List Nat):ASt:=upS (vcOLf_s0 B) [(2,.cells (bl C) true)] 7
noncomputable def vcOLf_s2:ASt:=mkSt [] 7
theorem vcOLf (q:CallT) (w:Nat→Nat) (u:Nat) (B C:List Nat) (Q:AV×ASt→Prop) :
 Vq (tOLf q w u B C) (fun r=>Q (r.1,canS [] r.2)) (as_ (vcOLf_s0 B) (kCdJ_12 15 17 B) (kCdJ_2 (w 1)) (as_ (vcOLf_s0 B) (kCdJ_1 15 17 (w 1) B 5) (kCdJ_2 (w 2)) (as_ (vcOLf_s0 B) (kCdJ_1 15 17 (w 2) B 6) (kCdJ_2 (w 3)) (as_ (vcOLf_s0 B) (kCdJ_1 15 17 (w 3) B 7) (kCdJ_2 (w 4)) (as_ (vcOLf_s0 B) (kCdJ_1 15 17 (w 4) B 8) (kCdJ_2 (w 5)) (as_ (vcOLf_s0 B) (kCdJ_1 15 17 (w 5) B 9) (kCdJ_2 (w 6)) (as_ (vcOLf_s0 B) (kCdJ_1 15 17 (w 6) B 10) (kCdJ_2 (w 7)) (as_ (vcOLf_s0 B) (kCdJ_1 15 17 (w 7) B 11) (kCdJ_2 (w 8)) (as_ (vcOLf_s0 B) (kCdJ_10 B) (.int .u16 (.ofNat u)) (al ((kCdJ_4 q 53).call 63 (kCdJ_13 (w 8) u)) (vcOLf_s0 B) (.agg (bl C)) (al ((kCdJ_4 q 52).call 123 kCdJ_7) (vcOLf_s1 B C) (.bool false) (ah (holdsO []) (aq (Q (.tuple [.int .u64 (.ofNat 0),.int .u16 (.ofNat 0),.int .i64 (.ofNat 4)],vcOLf_s2))))))))))))))):=vq (by kernel_rfl)
end Go.Proofs.YtiafochainjglaaGreatDoor.cd3
end

section
open Go Go.Ax Go.Proofs
namespace Go.Proofs.YtiafochainjglaaGreatDoor.cd3
open cd
set_option linter.unusedVariables false
theorem EFok:Env.Ok Tryz.prog EF:=envEx_ok (xs:=[]) ⟨⟨Tryz.func57,Tryz.call57⟩,⟨Tryz.func59,Tryz.call59⟩,⟨Tryz.func71,Tryz.call71⟩,⟨Tryz.func72,Tryz.call72⟩,⟨Tryz.func133,Tryz.call133⟩,trivial⟩ trivial (by kernel_rfl)
theorem wrapU {m:Nat} (h:m<18446744073709551616):wrapF .u64 (.ofNat m)=.ofNat m:=by
 have e:modN (.ofNat m) (big .u64)=m:=Nat.mod_eq_of_lt h
 unfold wrapF
 have hb:Nat.blt (modN (.ofNat m) (big .u64)) (half .u64)=true:=by rw[e];exact blt_t h
 show (bif Nat.blt (modN (.ofNat m) (big .u64)) (half .u64) then Int.ofNat (modN (.ofNat m) (big .u64)) else _)=_
 rw[hb,e];rfl
theorem or0 {b:Nat} (hb:b<256):wrapF .u64 (.ofNat (Nat.lor 0 (modN (wrapF .u64 (.ofNat b)) 18446744073709551616)))=.ofNat b:=by
 rw[wrapU (m:=b) (by omega)]
 have e4:modN (.ofNat b) 18446744073709551616=b:=Nat.mod_eq_of_lt (by omega)
 rw[e4,show Nat.lor 0 b=b from Nat.zero_or b]
 exact wrapU (by omega)
theorem or1 {n b:Nat} (hn:n<72057594037927936) (hb:b<256):wrapF .u64 (.ofNat (Nat.lor (modN (shlF .u64 (.ofNat n) 8) 18446744073709551616) (modN (wrapF .u64 (.ofNat b)) 18446744073709551616)))=.ofNat (n*256+b):=by
 have e1:shlF .u64 (.ofNat n) 8=.ofNat (n*256):=by
  have e0:shlF .u64 (.ofNat n) 8=wrapF .u64 (.ofNat (n*2 ^ 8)):=rfl
  rw[e0,show n*2 ^ 8=n*256 by omega]
  exact wrapU (by omega)
 rw[e1,wrapU (m:=b) (by omega)]
 have e3:modN (.ofNat (n*256)) 18446744073709551616=n*256:=Nat.mod_eq_of_lt (by omega)
 have e4:modN (.ofNat b) 18446744073709551616=b:=Nat.mod_eq_of_lt (by omega)
 rw[e3,e4]
 have e5:Nat.lor (n*256) b=n*256+b:=by
  have:=Nat.two_pow_add_eq_or_of_lt (i:=8) (show b<2 ^ 8 from hb) n
  rw[show (2 ^ 8*n:Nat)=n*256 by omega] at this
  exact this.symm
 rw[e5]
 exact wrapU (by omega)
theorem ad0 {b:Nat} (hb:b<256):wrapF .u64 (.ofNat 0+wrapF .u64 (.ofNat b))=.ofNat b:=by
 rw[wrapU (m:=b) (by omega)]
 have:(Int.ofNat 0+Int.ofNat b:Int)=Int.ofNat (0+b):=rfl
 rw[this,Nat.zero_add];exact wrapU (by omega)
theorem ad1 {n b:Nat} (hn:n<72057594037927936) (hb:b<256):wrapF .u64 (wrapF .u64 (.ofNat n * .ofNat 256)+wrapF .u64 (.ofNat b))=.ofNat (n*256+b):=by
 have e:(Int.ofNat n*Int.ofNat 256:Int)=Int.ofNat (n*256):=rfl
 have ad:(Int.ofNat (n*256)+Int.ofNat b:Int)=Int.ofNat (n*256+b):=rfl
 rw[e,wrapU (m:=n*256) (by omega),wrapU (m:=b) (by omega),ad]
 exact wrapU (by omega)
def pn (B:List Nat) (o:Nat):Nat→Nat
 | 0=>0
 | k+1=>pn B o k*256+B.getD (o+k) 0
theorem pn_lt {B:List Nat} (h:∀i,B.getD i 0<256) (o:Nat):∀k,pn B o k<256 ^ k
 | 0=>by show 0<1;decide
 | k+1=>by
  have ih:=pn_lt h o k
  have:=h (o+k)
  show pn B o k*256+B.getD (o+k) 0<256 ^ k*256
  omega
section
variable {S:ASt} {x y:Operand}
theorem orF0 {b:Nat} (hb:b<256):still S (aBin EF .or 24 x y (.int .u64 (.ofNat 0)) (.int .u64 (wrapF .u64 (.ofNat b))))=some (.int .u64 (.ofNat (0*256+b)),S):=by
 have e:aBin EF .or 24 x y (.int .u64 (.ofNat 0)) (.int .u64 (wrapF .u64 (.ofNat b)))=some (.int .u64 (wrapF .u64 (.ofNat (Nat.lor 0 (modN (wrapF .u64 (.ofNat b)) 18446744073709551616))))):=by kernel_rfl
 rw[or0 hb] at e
 rw[Nat.zero_mul,Nat.zero_add]
 exact still_of e
theorem orF1 {n b:Nat} (hn:n<72057594037927936) (hb:b<256):still S (aBin EF .or 24 x y (.int .u64 (shlF .u64 (.ofNat n) 8)) (.int .u64 (wrapF .u64 (.ofNat b))))=some (.int .u64 (.ofNat (n*256+b)),S):=by
 have e:aBin EF .or 24 x y (.int .u64 (shlF .u64 (.ofNat n) 8)) (.int .u64 (wrapF .u64 (.ofNat b)))=some (.int .u64 (wrapF .u64 (.ofNat (Nat.lor (modN (shlF .u64 (.ofNat n) 8) 18446744073709551616) (modN (wrapF .u64 (.ofNat b)) 18446744073709551616))))):=by kernel_rfl
 rw[or1 hn hb] at e
 exact still_of e
end
def blV (b:List Nat):List Nat:=(List.range 256).map fun i=>b.getD i 0
theorem bl_V (b:List Nat):bl b=(blV b).map cellU:=by unfold bl blV;rw[List.map_map];rfl
theorem blV_len (b:List Nat):(blV b).length=256:=by simp[blV]
theorem blV_full {b:List Nat} (h:b.length=256):blV b=b:=by
 unfold blV
 apply List.ext_getElem
 ·simp[h]
 ·intro i h1 h2
  simp at h1 h2
  simp[List.getD_eq_getElem?_getD,h2]
theorem eqLs_N:∀(xs ys:List Nat),xs.length=ys.length→eqLs (fun _ x y=>aEq0 (.int .u8) x y) 5 xs.length (xs.map cellU) (ys.map cellU)=some (decide (xs=ys))
 | [],[],_=>rfl
 | [],_::_,h=>by simp at h
 | _::_,[],h=>by simp at h
 | x::xs,y::ys,h=>by
  have ih:=eqLs_N xs ys (by simpa using h)
  show (match (some (eqF (.ofNat x) (.ofNat y)):Option Bool) with | some true=>eqLs (fun _ x y=>aEq0 (.int .u8) x y) 5 xs.length (xs.map cellU) (ys.map cellU) | some false=>some false | none=>none)=_
  rw[ih,eqF_eq]
  by_cases e:x=y
  ·subst e;simp
  ·have:(Int.ofNat x == Int.ofNat y)=false:=by
    simp only[Int.ofNat_eq_natCast,beq_eq_false_iff_ne,ne_eq]
    omega
   rw[this]
   simp[e]
def EqB:Prop:=∀(S:ASt) (i j:Nat) (a b:List Nat),(∀i,a.getD i 0<256)→(∀i,b.getD i 0<256)→S.h.get i=some (.cells (bl a) true)→S.h.get j=some (.cells (bl b) true) →
 Call1 Tryz.prog 123 [.slice (some (i,0)) 256 (.known 256),.slice (some (j,0)) 256 (.known 256)] S (.bool (decide (blV a=blV b)),S)
theorem getD_by {l:List Nat} (h:∀x,x∈l→x<256) (i:Nat):l.getD i 0<256:=by
 rw[List.getD_eq_getElem?_getD]
 cases e:l[i]? with
 | none=>decide
 | some x=>exact h x (List.mem_of_getElem? e)
section
variable {q:CallT} {H:List Nat→Nat→Nat}
theorem sealN_by (hS:Sums q H) {l:List Nat} (h:∀x,x∈l→x<256) (i:Nat):(sealN H l).getD i 0<256 :=
 getD_by (by_app (hd8_by h) (fun x hx=>by
  unfold first8 at hx
  simp only[List.mem_cons,List.not_mem_nil,or_false] at hx
  rcases hx with rfl | rfl | rfl | rfl | rfl | rfl | rfl | rfl<;>exact hS.lt _ _)) i
theorem p7 {B:List Nat} (h:∀i,B.getD i 0<256) (o k:Nat) (hk:k≤7):pn B o k<72057594037927936 :=
 Nat.lt_of_lt_of_le (pn_lt h o k) (Nat.pow_le_pow_right (n:=256) (by decide) hk)
theorem p8 {B:List Nat} (h:∀i,B.getD i 0<256) (o:Nat):pn B o 8<18446744073709551616:=pn_lt h o 8
theorem orS {S:ASt} {x y:Operand} {a b:Nat} (ha:a<256) (hb:b<256):still S (aBin EF .or 34 x y (.int .u16 (shlF .u16 (wrapF .u16 (.ofNat a)) 8)) (.int .u16 (wrapF .u16 (.ofNat b))))=some (.int .u16 (.ofNat (a*256+b)),S):=by
 have e:aBin EF .or 34 x y (.int .u16 (shlF .u16 (wrapF .u16 (.ofNat a)) 8)) (.int .u16 (wrapF .u16 (.ofNat b)))=some (.int .u16 (wrapF .u16 (.ofNat (Nat.lor (modN (shlF .u16 (wrapF .u16 (.ofNat a)) 8) 65536) (modN (wrapF .u16 (.ofNat b)) 65536))))):=by kernel_rfl
 have e0:shlF .u16 (.ofNat a) 8=.ofNat (a*256):=by
  have e0:shlF .u16 (.ofNat a) 8=wrapF .u16 (.ofNat (a*2 ^ 8)):=rfl
  rw[e0,show a*2 ^ 8=a*256 by omega]
  exact w16 (by omega)
 have e3:modN (.ofNat (a*256)) 65536=a*256:=Nat.mod_eq_of_lt (by omega)
 have e4:modN (.ofNat b) 65536=b:=Nat.mod_eq_of_lt (by omega)
 have e5:Nat.lor (a*256) b=a*256+b:=by
  have:=Nat.two_pow_add_eq_or_of_lt (i:=8) (show b<2 ^ 8 from hb) a
  rw[show (2 ^ 8*a:Nat)=a*256 by omega] at this
  exact this.symm
 rw[w16 (n:=a) (by omega),w16 (n:=b) (by omega),e0,e3,e4,e5,w16 (by omega)] at e
 rw[w16 (n:=a) (by omega),w16 (n:=b) (by omega),e0]
 exact still_of e
def mapIs (H:List Nat→Nat→Nat) (B:List Nat):Prop:=blV (sealN H (mapL (pn B 4 8)))=blV B
def logS (B:List Nat):Nat:=B.getD 12 0*256+B.getD 13 0
def logIs (H:List Nat→Nat→Nat) (B:List Nat):Prop:=blV (sealN H (logL (pn B 4 8) (logS B)))=blV B
theorem logS_lt {B:List Nat} (hB:∀i,B.getD i 0<256):logS B<65536:=by
 have:=hB 12
 have:=hB 13
 unfold logS
 omega
theorem ofMap_own (hS:Sums q H) (hE:EqB) {B:List Nat} (hB:∀i,B.getD i 0<256) (S:ASt) [Decidable (mapIs H B)] :
  Call1 Tryz.prog 57 [.agg (bl B)] S (.tuple (if mapIs H B then [.int .u64 (.ofNat (pn B 4 8)),.int .i64 (.ofNat 0)] else [.int .u64 (.ofNat 0),.int .i64 (.ofNat 4)]),S):=by
 obtain⟨C,hC⟩:∃C,C=sealN H (mapL (pn B 4 8)):=⟨_,rfl⟩
 have ops:∀{S:ASt} {x y:Operand} (k:Nat),k≤6→still S (aBin EF .or 24 x y (.int .u64 (shlF .u64 (.ofNat (pn B 4 (k+1))) 8)) (.int .u64 (wrapF .u64 (.ofNat (B.getD (4+(k+1)) 0)))))=some (.int .u64 (.ofNat (pn B 4 (k+2))),S):=fun k hk=>orF1 (p7 hB 4 (k+1) (by omega)) (hB _)
 by_cases h:mapIs H B
 ·rw[if_pos h]
  have hd:decide (blV C=blV B)=true:=by rw[hC];exact decide_eq_true h
  have hA:AtMem Tryz.prog 57 [.agg (bl B)] (mkSt [] 1) (.tuple [.int .u64 (.ofNat (pn B 4 8)),.int .i64 (.ofNat 0)]):=by
   refine AtMem.of_tm EFok (sum:=onlyC [62,63,97,98,123] (tabC [(62,[.int .u64 (.ofNat (pn B 4 8))],vcOMt_s0 B,(.agg (bl C),vcOMt_s0 B)),(123,[.slice (some (2,0)) 256 (.known 256),.slice (some (1,0)) 256 (.known 256)],vcOMt_s1 B C,(.bool true,vcOMt_s1 B C))])) (onlyC_ok (tabC_ok fun w hw=>by
    simp only[List.mem_cons,List.not_mem_nil,or_false] at hw
    rcases hw with rfl | rfl
    ·rw[hC];exact atMB hS (p8 hB 4) _
    ·rw[←hd];exact hE _ 2 1 C B (by rw[hC];exact sealN_by hS (mapL_by _)) hB (by kernel_rfl) (by kernel_rfl))) (Eq.mp (vcOMt _ (pn B 4) 0 B C (fun r=>r.1=.tuple [.int .u64 (.ofNat (pn B 4 8)),.int .i64 (.ofNat 0)])) ⟨orF0 (hB _),ops 0 (by omega),ops 1 (by omega),ops 2 (by omega),ops 3 (by omega),ops 4 (by omega),ops 5 (by omega),ops 6 (by omega),ca (tabC_hd ..),ca (by rw[tabC_tlf rfl];exact tabC_hd ..),trivial,rfl⟩)
  exact Call1.pureN hA (by simp[refsV]) (fun a ha=>by
   simp only[List.mem_cons,List.not_mem_nil,or_false] at ha
   subst ha
   exact blP B)
 ·rw[if_neg h]
  have hd:decide (blV C=blV B)=false:=by rw[hC];exact decide_eq_false h
  have hA:AtMem Tryz.prog 57 [.agg (bl B)] (mkSt [] 1) (.tuple [.int .u64 (.ofNat 0),.int .i64 (.ofNat 4)]):=by
   refine AtMem.of_tm EFok (sum:=onlyC [62,63,97,98,123] (tabC [(62,[.int .u64 (.ofNat (pn B 4 8))],vcOMf_s0 B,(.agg (bl C),vcOMf_s0 B)),(123,[.slice (some (2,0)) 256 (.known 256),.slice (some (1,0)) 256 (.known 256)],vcOMf_s1 B C,(.bool false,vcOMf_s1 B C))])) (onlyC_ok (tabC_ok fun w hw=>by
    simp only[List.mem_cons,List.not_mem_nil,or_false] at hw
    rcases hw with rfl | rfl
    ·rw[hC];exact atMB hS (p8 hB 4) _
    ·rw[←hd];exact hE _ 2 1 C B (by rw[hC];exact sealN_by hS (mapL_by _)) hB (by kernel_rfl) (by kernel_rfl))) (Eq.mp (vcOMf _ (pn B 4) 0 B C (fun r=>r.1=.tuple [.int .u64 (.ofNat 0),.int .i64 (.ofNat 4)])) ⟨orF0 (hB _),ops 0 (by omega),ops 1 (by omega),ops 2 (by omega),ops 3 (by omega),ops 4 (by omega),ops 5 (by omega),ops 6 (by omega),ca (tabC_hd ..),ca (by rw[tabC_tlf rfl];exact tabC_hd ..),trivial,rfl⟩)
  exact Call1.pureN hA (by simp[refsV]) (fun a ha=>by
   simp only[List.mem_cons,List.not_mem_nil,or_false] at ha
   subst ha
   exact blP B)
theorem ofLog_own (hS:Sums q H) (hE:EqB) {B:List Nat} (hB:∀i,B.getD i 0<256) (S:ASt) [Decidable (logIs H B)] :
  Call1 Tryz.prog 59 [.agg (bl B)] S (.tuple (if logIs H B then [.int .u64 (.ofNat (pn B 4 8)),.int .u16 (.ofNat (logS B)),.int .i64 (.ofNat 0)] else [.int .u64 (.ofNat 0),.int .u16 (.ofNat 0),.int .i64 (.ofNat 4)]),S):=by
 obtain⟨C,hC⟩:∃C,C=sealN H (logL (pn B 4 8) (logS B)):=⟨_,rfl⟩
 have ops:∀{S:ASt} {x y:Operand} (k:Nat),k≤6→still S (aBin EF .or 24 x y (.int .u64 (shlF .u64 (.ofNat (pn B 4 (k+1))) 8)) (.int .u64 (wrapF .u64 (.ofNat (B.getD (4+(k+1)) 0)))))=some (.int .u64 (.ofNat (pn B 4 (k+2))),S):=fun k hk=>orF1 (p7 hB 4 (k+1) (by omega)) (hB _)
 by_cases h:logIs H B
 ·rw[if_pos h]
  have hd:decide (blV C=blV B)=true:=by rw[hC];exact decide_eq_true h
  have hA:AtMem Tryz.prog 59 [.agg (bl B)] (mkSt [] 1) (.tuple [.int .u64 (.ofNat (pn B 4 8)),.int .u16 (.ofNat (logS B)),.int .i64 (.ofNat 0)]):=by
   refine AtMem.of_tm EFok (sum:=onlyC [62,63,97,98,123] (tabC [(63,[.int .u64 (.ofNat (pn B 4 8)),.int .u16 (.ofNat (logS B))],vcOLt_s0 B,(.agg (bl C),vcOLt_s0 B)),(123,[.slice (some (2,0)) 256 (.known 256),.slice (some (1,0)) 256 (.known 256)],vcOLt_s1 B C,(.bool true,vcOLt_s1 B C))])) (onlyC_ok (tabC_ok fun w hw=>by
    simp only[List.mem_cons,List.not_mem_nil,or_false] at hw
    rcases hw with rfl | rfl
    ·rw[hC];exact atLB hS (p8 hB 4) (logS_lt hB) _
    ·rw[←hd];exact hE _ 2 1 C B (by rw[hC];exact sealN_by hS (logL_by _ _)) hB (by kernel_rfl) (by kernel_rfl))) (Eq.mp (vcOLt _ (pn B 4) (logS B) B C (fun r=>r.1=.tuple [.int .u64 (.ofNat (pn B 4 8)),.int .u16 (.ofNat (logS B)),.int .i64 (.ofNat 0)])) ⟨orF0 (hB _),ops 0 (by omega),ops 1 (by omega),ops 2 (by omega),ops 3 (by omega),ops 4 (by omega),ops 5 (by omega),ops 6 (by omega),orS (hB _) (hB _),ca (tabC_hd ..),ca (by rw[tabC_tlf rfl];exact tabC_hd ..),trivial,rfl⟩)
  exact Call1.pureN hA (by simp[refsV]) (fun a ha=>by
   simp only[List.mem_cons,List.not_mem_nil,or_false] at ha
   subst ha
   exact blP B)
 ·rw[if_neg h]
  have hd:decide (blV C=blV B)=false:=by rw[hC];exact decide_eq_false h
  have hA:AtMem Tryz.prog 59 [.agg (bl B)] (mkSt [] 1) (.tuple [.int .u64 (.ofNat 0),.int .u16 (.ofNat 0),.int .i64 (.ofNat 4)]):=by
   refine AtMem.of_tm EFok (sum:=onlyC [62,63,97,98,123] (tabC [(63,[.int .u64 (.ofNat (pn B 4 8)),.int .u16 (.ofNat (logS B))],vcOLf_s0 B,(.agg (bl C),vcOLf_s0 B)),(123,[.slice (some (2,0)) 256 (.known 256),.slice (some (1,0)) 256 (.known 256)],vcOLf_s1 B C,(.bool false,vcOLf_s1 B C))])) (onlyC_ok (tabC_ok fun w hw=>by
    simp only[List.mem_cons,List.not_mem_nil,or_false] at hw
    rcases hw with rfl | rfl
    ·rw[hC];exact atLB hS (p8 hB 4) (logS_lt hB) _
    ·rw[←hd];exact hE _ 2 1 C B (by rw[hC];exact sealN_by hS (logL_by _ _)) hB (by kernel_rfl) (by kernel_rfl))) (Eq.mp (vcOLf _ (pn B 4) (logS B) B C (fun r=>r.1=.tuple [.int .u64 (.ofNat 0),.int .u16 (.ofNat 0),.int .i64 (.ofNat 4)])) ⟨orF0 (hB _),ops 0 (by omega),ops 1 (by omega),ops 2 (by omega),ops 3 (by omega),ops 4 (by omega),ops 5 (by omega),ops 6 (by omega),orS (hB _) (hB _),ca (tabC_hd ..),ca (by rw[tabC_tlf rfl];exact tabC_hd ..),trivial,rfl⟩)
  exact Call1.pureN hA (by simp[refsV]) (fun a ha=>by
   simp only[List.mem_cons,List.not_mem_nil,or_false] at ha
   subst ha
   exact blP B)
end
end Go.Proofs.YtiafochainjglaaGreatDoor.cd3
end

section
open Go Go.Ax Go.Proofs
namespace Go.Proofs.YtiafochainjglaaGreatDoor.cd3
open cd
set_option linter.unusedVariables false
noncomputable def EE:Env:=envEx Tryz.prog [0,3,4,5,9,176] [(123,Tryz.f123)] []
theorem EEok:Env.Ok Tryz.prog EE:=envEx_ok (xs:=[]) ⟨⟨Tryz.func123,Tryz.call123⟩,trivial⟩ trivial (by kernel_rfl)
noncomputable def tE (v w:AV) (a b:List Nat) (e:Bool) (S:ASt):Tr (AV×ASt):=(TM EE noSum [(123,⟨[6,8,9],[],[],[]⟩)] fl0 60).call 123 [v,w] S
theorem vcE (v w:AV) (a b:List Nat) (e:Bool) (S:ASt) (Q:AV×ASt→Prop) :
 Vq (tE v w a b e S) Q (al (aConvert EE 176 9 v) S (.str a) (al (aConvert EE 176 9 w) S (.str b) (as_ S (aBin EE .eql 9 (.tmp 6) (.tmp 8) (.str a) (.str b)) (.bool e) (aq (Q (.bool e,S)))))):=vq (by kernel_rfl)
theorem bytesL_U:∀{l:List Nat},(∀x,x∈l→x<256)→bytesL (l.map cellU)=some l
 | [],_=>rfl
 | x::t,h=>by
  show (match bytesL (t.map cellU) with | some l=>some (x % 256::l) | none=>none)=_
  rw[bytesL_U fun y hy=>h y (List.mem_cons_of_mem _ hy)]
  simp only[Nat.mod_eq_of_lt (h x List.mem_cons_self)]
theorem blV_by {b:List Nat} (h:∀i,b.getD i 0<256):∀x,x∈blV b→x<256:=fun x hx=>by
 unfold blV at hx
 obtain⟨i,_,rfl⟩:=List.mem_map.1 hx
 exact h i
theorem convB {S:ASt} {i:Nat} {b:List Nat} {rw:Bool} (hb:∀i,b.getD i 0<256) (h:S.h.get i=some (.cells (bl b) rw)):aConvert EE 176 9 (.slice (some (i,0)) 256 (.known 256)) S=some (.str (blV b),S):=by
 have e:aConvert EE 176 9 (.slice (some (i,0)) 256 (.known 256)) S=(match S.h.get i with
  | some (.cells cs _)=>match takeL cs 0 256 with | some l=>(match bytesL l with | some b=>some (.str b,S) | none=>none) | none=>none
  | _=>none):=by kernel_rfl
 rw[e]
 simp only[h,takeL_bl]
 rw[bl_V,bytesL_U (blV_by hb)]
theorem eqB_ok:EqB:=fun S i j a b ha hb h1 h2 =>
 Call1.of_tm EEok noSum_ok (Eq.mp (vcE (.slice (some (i,0)) 256 (.known 256)) (.slice (some (j,0)) 256 (.known 256)) (blV a) (blV b) (decide (blV a=blV b)) S (fun r=>r=(.bool (decide (blV a=blV b)),S))) ⟨convB ha h1,convB hb h2,by
  have e:aBin EE BinOp.eql 9 (Operand.tmp 6) (Operand.tmp 8) (AV.str (blV a)) (AV.str (blV b))=some (.bool (lEq (blV a) (blV b))):=by kernel_rfl
  rw[lEq_eq] at e
  refine still_of ?_
  rw[e]
  congr 2
  by_cases h:blV a=blV b
  ·rw[h];simp
  ·simp[h],rfl⟩)
end Go.Proofs.YtiafochainjglaaGreatDoor.cd3
end

section
open Go Go.Ax Go.Proofs
namespace Go.Proofs.YtiafochainjglaaGreatDoor.cd4
set_option linter.unusedVariables false
noncomputable def fnsG:List (Nat×Func):=[(169,Tryz.f169),(199,Tryz.f199),(69,Tryz.f69),(133,Tryz.f133)]
noncomputable def EG:Env:=envEx Tryz.prog [0,3,4,5,23,24,25,27,29,37,54,75,111,176,197,253,254] fnsG []
def fl0:Fl:=⟨[],[],[],[]⟩
noncomputable def flG:List (Nat×Fl):=[(169,⟨[13,17,41,49],[12,16,36],[],[]⟩),(199,⟨[21],[],[],[]⟩),(69,⟨[7,10,26,30,32],[12,15,17,19,21],[],[]⟩),(133,⟨[18],[],[],[]⟩)]
noncomputable abbrev kCdM_19 (a:CallT):=TM EG (onlyC [48,60,95,123] a) flG fl0 60
noncomputable def tSt (q:CallT) (w:Nat→Nat→Nat) (c:Bool) (B C:List Nat):Tr (AV×ASt):=(kCdM_19 q).call 169 [.agg (bl B)] (mkSt [] 1)
noncomputable def tSf (q:CallT) (w:Nat→Nat→Nat) (c:Bool) (B C:List Nat):Tr (AV×ASt):=(kCdM_19 q).call 169 [.agg (bl B)] (mkSt [] 1)
noncomputable def tSn (q:CallT) (w:Nat→Nat→Nat) (c:Bool) (B C:List Nat):Tr (AV×ASt):=(kCdM_19 q).call 169 [.agg (bl B)] (mkSt [] 1)
noncomputable abbrev kCdM_6:List AV:=[.int .i64 (.ofNat 0),.bool false,.int .u64 (.ofNat 0),.int .u64 (.ofNat 0),.int .u64 (.ofNat 0),.int .u64 (.ofNat 0),.int .u64 (.ofNat 0)]
noncomputable abbrev kCdM_8 (a:Nat):List AV:=[.int .i64 (.ofNat a)]
noncomputable def vcSt_s0 (B:List Nat):ASt:=mkSt [(1,.cells (bl B) true),(2,.cells kCdM_6 true),(3,.cells (kCdM_8 4) true)] 4
noncomputable def vcSt_s1 (B:List Nat):ASt:=upS (vcSt_s0 B) [(3,.cells (kCdM_8 5) true)] 4
noncomputable abbrev kCdM_13 (a:Nat→Nat→Nat):List AV:=[.int .i64 (.ofNat (a 4 1)),.bool false,.int .u64 (.ofNat 0),.int .u64 (.ofNat 0),.int .u64 (.ofNat 0),.int .u64 (.ofNat 0),.int .u64 (.ofNat 0)]
noncomputable def vcSt_s2 (w:Nat→Nat→Nat) (B:List Nat):ASt:=upS (vcSt_s1 B) [(2,.cells (kCdM_13 w) true)] 4
noncomputable def vcSt_s3 (w:Nat→Nat→Nat) (B:List Nat):ASt:=upS (vcSt_s2 w B) [(3,.cells (kCdM_8 6) true)] 4
noncomputable abbrev kCdM_15 (a:Nat→Nat→Nat) (b:Bool):List AV:=[.int .i64 (.ofNat (a 4 1)),.bool b,.int .u64 (.ofNat 0),.int .u64 (.ofNat 0),.int .u64 (.ofNat 0),.int .u64 (.ofNat 0),.int .u64 (.ofNat 0)]
noncomputable def vcSt_s4 (w:Nat→Nat→Nat) (c:Bool) (B:List Nat):ASt:=upS (vcSt_s3 w B) [(2,.cells (kCdM_15 w c) true)] 4
noncomputable abbrev kCdM_7 (a:Nat→Nat→Nat) (b:Bool):List AV:=[.int .i64 (.ofNat (a 4 1)),.bool b,.int .u64 (.ofNat 0),.int .u64 (.ofNat 0),.int .u64 (.ofNat 0),.int .u64 (.ofNat 0),.int .u64 (.ofNat (a 6 8))]
noncomputable def vcSt_s5 (w:Nat→Nat→Nat) (c:Bool) (B:List Nat):ASt:=upS (vcSt_s0 B) [(2,.cells (kCdM_7 w c) true),(3,.cells (kCdM_8 14) true)] 4
noncomputable abbrev kCdM_12 (a:Nat→Nat→Nat) (b:Bool):List AV:=[.int .i64 (.ofNat (a 4 1)),.bool b,.int .u64 (.ofNat (a 14 8)),.int .u64 (.ofNat 0),.int .u64 (.ofNat 0),.int .u64 (.ofNat 0),.int .u64 (.ofNat (a 6 8))]
noncomputable def vcSt_s6 (w:Nat→Nat→Nat) (c:Bool) (B:List Nat):ASt:=upS (vcSt_s0 B) [(2,.cells (kCdM_12 w c) true),(3,.cells (kCdM_8 22) true)] 4
noncomputable abbrev kCdM_11 (a:Nat→Nat→Nat) (b:Bool):List AV:=[.int .i64 (.ofNat (a 4 1)),.bool b,.int .u64 (.ofNat (a 14 8)),.int .u64 (.ofNat (a 22 8)),.int .u64 (.ofNat 0),.int .u64 (.ofNat 0),.int .u64 (.ofNat (a 6 8))]
noncomputable def vcSt_s7 (w:Nat→Nat→Nat) (c:Bool) (B:List Nat):ASt:=upS (vcSt_s1 B) [(2,.cells (kCdM_11 w c) true),(3,.cells (kCdM_8 30) true)] 4
noncomputable abbrev kCdM_10 (a:Nat→Nat→Nat) (b:Bool):List AV:=[.int .i64 (.ofNat (a 4 1)),.bool b,.int .u64 (.ofNat (a 14 8)),.int .u64 (.ofNat (a 22 8)),.int .u64 (.ofNat (a 30 8)),.int .u64 (.ofNat 0),.int .u64 (.ofNat (a 6 8))]
noncomputable def vcSt_s8 (w:Nat→Nat→Nat) (c:Bool) (B:List Nat):ASt:=upS (vcSt_s2 w B) [(2,.cells (kCdM_10 w c) true),(3,.cells (kCdM_8 38) true)] 4
noncomputable abbrev kCdM_3 (a:Nat→Nat→Nat) (b:Bool):List AV:=[.int .i64 (.ofNat (a 4 1)),.bool b,.int .u64 (.ofNat (a 14 8)),.int .u64 (.ofNat (a 22 8)),.int .u64 (.ofNat (a 30 8)),.int .u64 (.ofNat (a 38 8)),.int .u64 (.ofNat (a 6 8))]
noncomputable def vcSt_s9 (w:Nat→Nat→Nat) (c:Bool) (B:List Nat):ASt:=upS (vcSt_s3 w B) [(2,.cells (kCdM_3 w c) true),(3,.cells (kCdM_8 46) true)] 4
noncomputable def vcSt_s10 (w:Nat→Nat→Nat) (c:Bool) (B C:List Nat):ASt:=upS (vcSt_s9 w c B) [(4,.cells (bl C) true)] 13
noncomputable def vcSt_s11:ASt:=mkSt [] 13
noncomputable abbrev kCdM_20 (a:List Nat) (b:Nat):=Int.ofNat (List.getD a b 0)
noncomputable abbrev kCdM_1 (a:Nat→Nat→Nat) (b c:Nat) (d:List Nat) (e:Nat):=aBin EG BinOp.or 24 (Operand.tmp 18) (Operand.tmp 20) (AV.int .u64 (shlF .u64 (.ofNat (a b c)) 8)) (AV.int .u64 (wrapF .u64 (kCdM_20 d e)))
noncomputable abbrev kCdM_2 (a:Nat→Nat→Nat) (b c:Nat):=AV.int .u64 (.ofNat (a b c))
noncomputable abbrev kCdM_4 (a:List Nat) (b:Nat):=aBin EG BinOp.or 24 (Operand.tmp 18) (Operand.tmp 20) (AV.int .u64 (.ofNat 0)) (AV.int .u64 (wrapF .u64 (kCdM_20 a b)))
noncomputable abbrev kCdM_16 (a:CallT) (b:Nat):=M EG (drawA EG) (onlyC [48,60,95,123] a) b
noncomputable abbrev kCdM_17 (a:Nat→Nat→Nat):=aBin EG BinOp.eql 24 (Operand.tmp 16) (Operand.const (Value.int .u64 1)) (kCdM_2 a 5 1) (AV.int .u64 (.ofNat 1))
noncomputable abbrev kCdM_21 (a:Nat→Nat→Nat):=AV.int .i64 (.ofNat (a 4 1))
theorem vcSt (q:CallT) (w:Nat→Nat→Nat) (c:Bool) (B C:List Nat) (Q:AV×ASt→Prop) :
 Vq (tSt q w c B C) (fun r=>Q (r.1,canS [] r.2)) (as_ (vcSt_s0 B) (kCdM_4 B 4) (kCdM_2 w 4 1) (al (aConvert EG 24 23 (kCdM_2 w 4 1)) (vcSt_s1 B) (kCdM_21 w) (as_ (vcSt_s2 w B) (kCdM_4 B 5) (kCdM_2 w 5 1) (as_ (vcSt_s3 w B) (kCdM_17 w) (.bool c) (as_ (vcSt_s4 w c B) (kCdM_4 B 6) (kCdM_2 w 6 1) (as_ (vcSt_s4 w c B) (kCdM_1 w 6 1 B 7) (kCdM_2 w 6 2) (as_ (vcSt_s4 w c B) (kCdM_1 w 6 2 B 8) (kCdM_2 w 6 3) (as_ (vcSt_s4 w c B) (kCdM_1 w 6 3 B 9) (kCdM_2 w 6 4) (as_ (vcSt_s4 w c B) (kCdM_1 w 6 4 B 10) (kCdM_2 w 6 5) (as_ (vcSt_s4 w c B) (kCdM_1 w 6 5 B 11) (kCdM_2 w 6 6) (as_ (vcSt_s4 w c B) (kCdM_1 w 6 6 B 12) (kCdM_2 w 6 7) (as_ (vcSt_s4 w c B) (kCdM_1 w 6 7 B 13) (kCdM_2 w 6 8) (as_ (vcSt_s5 w c B) (kCdM_4 B 14) (kCdM_2 w 14 1) (as_ (vcSt_s5 w c B) (kCdM_1 w 14 1 B 15) (kCdM_2 w 14 2) (as_ (vcSt_s5 w c B) (kCdM_1 w 14 2 B 16) (kCdM_2 w 14 3) (as_ (vcSt_s5 w c B) (kCdM_1 w 14 3 B 17) (kCdM_2 w 14 4) (as_ (vcSt_s5 w c B) (kCdM_1 w 14 4 B 18) (kCdM_2 w 14 5) (as_ (vcSt_s5 w c B) (kCdM_1 w 14 5 B 19) (kCdM_2 w 14 6) (as_ (vcSt_s5 w c B) (kCdM_1 w 14 6 B 20) (kCdM_2 w 14 7) (as_ (vcSt_s5 w c B) (kCdM_1 w 14 7 B 21) (kCdM_2 w 14 8) (as_ (vcSt_s6 w c B) (kCdM_4 B 22) (kCdM_2 w 22 1) (as_ (vcSt_s6 w c B) (kCdM_1 w 22 1 B 23) (kCdM_2 w 22 2) (as_ (vcSt_s6 w c B) (kCdM_1 w 22 2 B 24) (kCdM_2 w 22 3) (as_ (vcSt_s6 w c B) (kCdM_1 w 22 3 B 25) (kCdM_2 w 22 4) (as_ (vcSt_s6 w c B) (kCdM_1 w 22 4 B 26) (kCdM_2 w 22 5) (as_ (vcSt_s6 w c B) (kCdM_1 w 22 5 B 27) (kCdM_2 w 22 6) (as_ (vcSt_s6 w c B) (kCdM_1 w 22 6 B 28) (kCdM_2 w 22 7) (as_ (vcSt_s6 w c B) (kCdM_1 w 22 7 B 29) (kCdM_2 w 22 8) (as_ (vcSt_s7 w c B) (kCdM_4 B 30) (kCdM_2 w 30 1) (as_ (vcSt_s7 w c B) (kCdM_1 w 30 1 B 31) (kCdM_2 w 30 2) (as_ (vcSt_s7 w c B) (kCdM_1 w 30 2 B 32) (kCdM_2 w 30 3) (as_ (vcSt_s7 w c B) (kCdM_1 w 30 3 B 33) (kCdM_2 w 30 4) (as_ (vcSt_s7 w c B) (kCdM_1 w 30 4 B 34) (kCdM_2 w 30 5) (as_ (vcSt_s7 w c B) (kCdM_1 w 30 5 B 35) (kCdM_2 w 30 6) (as_ (vcSt_s7 w c B) (kCdM_1 w 30 6 B 36) (kCdM_2 w 30 7) (as_ (vcSt_s7 w c B) (kCdM_1 w 30 7 B 37) (kCdM_2 w 30 8) (as_ (vcSt_s8 w c B) (kCdM_4 B 38) (kCdM_2 w 38 1) (as_ (vcSt_s8 w c B) (kCdM_1 w 38 1 B 39) (kCdM_2 w 38 2) (as_ (vcSt_s8 w c B) (kCdM_1 w 38 2 B 40) (kCdM_2 w 38 3) (as_ (vcSt_s8 w c B) (kCdM_1 w 38 3 B 41) (kCdM_2 w 38 4) (as_ (vcSt_s8 w c B) (kCdM_1 w 38 4 B 42) (kCdM_2 w 38 5) (as_ (vcSt_s8 w c B) (kCdM_1 w 38 5 B 43) (kCdM_2 w 38 6) (as_ (vcSt_s8 w c B) (kCdM_1 w 38 6 B 44) (kCdM_2 w 38 7) (as_ (vcSt_s8 w c B) (kCdM_1 w 38 7 B 45) (kCdM_2 w 38 8) (al ((kCdM_16 q 51).call 60 [.agg (kCdM_3 w c)]) (vcSt_s9 w c B) (.tuple [.agg (bl C),.int .i64 (.ofNat 0)]) (al ((kCdM_16 q 49).call 123 [.slice (some (4,0)) 256 (.known 256),.slice (some (1,0)) 256 (.known 256)]) (vcSt_s10 w c B C) (.bool true) (ah (holdsO []) (aq (Q (.tuple [.agg (kCdM_3 w c),.int .i64 (.ofNat 0)],vcSt_s11)))))))))))))))))))))))))))))))))))))))))))))))))):=vq (by kernel_rfl)
noncomputable def vcSf_s0 (B:List Nat):ASt:=mkSt [(1,.cells (bl B) true),(2,.cells kCdM_6 true),(3,.cells (kCdM_8 4) true)] 4
noncomputable def vcSf_s1 (B:List Nat):ASt:=upS (vcSf_s0 B) [(3,.cells (kCdM_8 5) true)] 4
noncomputable def vcSf_s2 (w:Nat→Nat→Nat) (B:List Nat):ASt:=upS (vcSf_s1 B) [(2,.cells (kCdM_13 w) true)] 4
noncomputable def vcSf_s3 (w:Nat→Nat→Nat) (B:List Nat):ASt:=upS (vcSf_s2 w B) [(3,.cells (kCdM_8 6) true)] 4
noncomputable def vcSf_s4 (w:Nat→Nat→Nat) (c:Bool) (B:List Nat):ASt:=upS (vcSf_s3 w B) [(2,.cells (kCdM_15 w c) true)] 4
noncomputable def vcSf_s5 (w:Nat→Nat→Nat) (c:Bool) (B:List Nat):ASt:=upS (vcSf_s0 B) [(2,.cells (kCdM_7 w c) true),(3,.cells (kCdM_8 14) true)] 4
noncomputable def vcSf_s6 (w:Nat→Nat→Nat) (c:Bool) (B:List Nat):ASt:=upS (vcSf_s0 B) [(2,.cells (kCdM_12 w c) true),(3,.cells (kCdM_8 22) true)] 4
noncomputable def vcSf_s7 (w:Nat→Nat→Nat) (c:Bool) (B:List Nat):ASt:=upS (vcSf_s1 B) [(2,.cells (kCdM_11 w c) true),(3,.cells (kCdM_8 30) true)] 4
noncomputable def vcSf_s8 (w:Nat→Nat→Nat) (c:Bool) (B:List Nat):ASt:=upS (vcSf_s2 w B) [(2,.cells (kCdM_10 w c) true),(3,.cells (kCdM_8 38) true)] 4
noncomputable def vcSf_s9 (w:Nat→Nat→Nat) (c:Bool) (B:List Nat):ASt:=upS (vcSf_s3 w B) [(2,.cells (kCdM_3 w c) true),(3,.cells (kCdM_8 46) true)] 4
noncomputable def vcSf_s10 (w:Nat→Nat→Nat) (c:Bool) (B C:List Nat):ASt:=upS (vcSf_s9 w c B) [(4,.cells (bl C) true)] 13
noncomputable def vcSf_s11:ASt:=mkSt [] 13
theorem vcSf (q:CallT) (w:Nat→Nat→Nat) (c:Bool) (B C:List Nat) (Q:AV×ASt→Prop) :
 Vq (tSf q w c B C) (fun r=>Q (r.1,canS [] r.2)) (as_ (vcSf_s0 B) (kCdM_4 B 4) (kCdM_2 w 4 1) (al (aConvert EG 24 23 (kCdM_2 w 4 1)) (vcSf_s1 B) (kCdM_21 w) (as_ (vcSf_s2 w B) (kCdM_4 B 5) (kCdM_2 w 5 1) (as_ (vcSf_s3 w B) (kCdM_17 w) (.bool c) (as_ (vcSf_s4 w c B) (kCdM_4 B 6) (kCdM_2 w 6 1) (as_ (vcSf_s4 w c B) (kCdM_1 w 6 1 B 7) (kCdM_2 w 6 2) (as_ (vcSf_s4 w c B) (kCdM_1 w 6 2 B 8) (kCdM_2 w 6 3) (as_ (vcSf_s4 w c B) (kCdM_1 w 6 3 B 9) (kCdM_2 w 6 4) (as_ (vcSf_s4 w c B) (kCdM_1 w 6 4 B 10) (kCdM_2 w 6 5) (as_ (vcSf_s4 w c B) (kCdM_1 w 6 5 B 11) (kCdM_2 w 6 6) (as_ (vcSf_s4 w c B) (kCdM_1 w 6 6 B 12) (kCdM_2 w 6 7) (as_ (vcSf_s4 w c B) (kCdM_1 w 6 7 B 13) (kCdM_2 w 6 8) (as_ (vcSf_s5 w c B) (kCdM_4 B 14) (kCdM_2 w 14 1) (as_ (vcSf_s5 w c B) (kCdM_1 w 14 1 B 15) (kCdM_2 w 14 2) (as_ (vcSf_s5 w c B) (kCdM_1 w 14 2 B 16) (kCdM_2 w 14 3) (as_ (vcSf_s5 w c B) (kCdM_1 w 14 3 B 17) (kCdM_2 w 14 4) (as_ (vcSf_s5 w c B) (kCdM_1 w 14 4 B 18) (kCdM_2 w 14 5) (as_ (vcSf_s5 w c B) (kCdM_1 w 14 5 B 19) (kCdM_2 w 14 6) (as_ (vcSf_s5 w c B) (kCdM_1 w 14 6 B 20) (kCdM_2 w 14 7) (as_ (vcSf_s5 w c B) (kCdM_1 w 14 7 B 21) (kCdM_2 w 14 8) (as_ (vcSf_s6 w c B) (kCdM_4 B 22) (kCdM_2 w 22 1) (as_ (vcSf_s6 w c B) (kCdM_1 w 22 1 B 23) (kCdM_2 w 22 2) (as_ (vcSf_s6 w c B) (kCdM_1 w 22 2 B 24) (kCdM_2 w 22 3) (as_ (vcSf_s6 w c B) (kCdM_1 w 22 3 B 25) (kCdM_2 w 22 4) (as_ (vcSf_s6 w c B) (kCdM_1 w 22 4 B 26) (kCdM_2 w 22 5) (as_ (vcSf_s6 w c B) (kCdM_1 w 22 5 B 27) (kCdM_2 w 22 6) (as_ (vcSf_s6 w c B) (kCdM_1 w 22 6 B 28) (kCdM_2 w 22 7) (as_ (vcSf_s6 w c B) (kCdM_1 w 22 7 B 29) (kCdM_2 w 22 8) (as_ (vcSf_s7 w c B) (kCdM_4 B 30) (kCdM_2 w 30 1) (as_ (vcSf_s7 w c B) (kCdM_1 w 30 1 B 31) (kCdM_2 w 30 2) (as_ (vcSf_s7 w c B) (kCdM_1 w 30 2 B 32) (kCdM_2 w 30 3) (as_ (vcSf_s7 w c B) (kCdM_1 w 30 3 B 33) (kCdM_2 w 30 4) (as_ (vcSf_s7 w c B) (kCdM_1 w 30 4 B 34) (kCdM_2 w 30 5) (as_ (vcSf_s7 w c B) (kCdM_1 w 30 5 B 35) (kCdM_2 w 30 6) (as_ (vcSf_s7 w c B) (kCdM_1 w 30 6 B 36) (kCdM_2 w 30 7) (as_ (vcSf_s7 w c B) (kCdM_1 w 30 7 B 37) (kCdM_2 w 30 8) (as_ (vcSf_s8 w c B) (kCdM_4 B 38) (kCdM_2 w 38 1) (as_ (vcSf_s8 w c B) (kCdM_1 w 38 1 B 39) (kCdM_2 w 38 2) (as_ (vcSf_s8 w c B) (kCdM_1 w 38 2 B 40) (kCdM_2 w 38 3) (as_ (vcSf_s8 w c B) (kCdM_1 w 38 3 B 41) (kCdM_2 w 38 4) (as_ (vcSf_s8 w c B) (kCdM_1 w 38 4 B 42) (kCdM_2 w 38 5) (as_ (vcSf_s8 w c B) (kCdM_1 w 38 5 B 43) (kCdM_2 w 38 6) (as_ (vcSf_s8 w c B) (kCdM_1 w 38 6 B 44) (kCdM_2 w 38 7) (as_ (vcSf_s8 w c B) (kCdM_1 w 38 7 B 45) (kCdM_2 w 38 8) (al ((kCdM_16 q 51).call 60 [.agg (kCdM_3 w c)]) (vcSf_s9 w c B) (.tuple [.agg (bl C),.int .i64 (.ofNat 0)]) (al ((kCdM_16 q 49).call 123 [.slice (some (4,0)) 256 (.known 256),.slice (some (1,0)) 256 (.known 256)]) (vcSf_s10 w c B C) (.bool false) (ah (holdsO []) (aq (Q (.tuple [.agg kCdM_6,.int .i64 (.ofNat 4)],vcSf_s11)))))))))))))))))))))))))))))))))))))))))))))))))):=vq (by kernel_rfl)
noncomputable def vcSn_s0 (B:List Nat):ASt:=mkSt [(1,.cells (bl B) true),(2,.cells kCdM_6 true),(3,.cells (kCdM_8 4) true)] 4
noncomputable def vcSn_s1 (B:List Nat):ASt:=upS (vcSn_s0 B) [(3,.cells (kCdM_8 5) true)] 4
noncomputable def vcSn_s2 (w:Nat→Nat→Nat) (B:List Nat):ASt:=upS (vcSn_s1 B) [(2,.cells (kCdM_13 w) true)] 4
noncomputable def vcSn_s3 (w:Nat→Nat→Nat) (B:List Nat):ASt:=upS (vcSn_s2 w B) [(3,.cells (kCdM_8 6) true)] 4
noncomputable def vcSn_s4 (w:Nat→Nat→Nat) (c:Bool) (B:List Nat):ASt:=upS (vcSn_s3 w B) [(2,.cells (kCdM_15 w c) true)] 4
noncomputable def vcSn_s5 (w:Nat→Nat→Nat) (c:Bool) (B:List Nat):ASt:=upS (vcSn_s0 B) [(2,.cells (kCdM_7 w c) true),(3,.cells (kCdM_8 14) true)] 4
noncomputable def vcSn_s6 (w:Nat→Nat→Nat) (c:Bool) (B:List Nat):ASt:=upS (vcSn_s0 B) [(2,.cells (kCdM_12 w c) true),(3,.cells (kCdM_8 22) true)] 4
noncomputable def vcSn_s7 (w:Nat→Nat→Nat) (c:Bool) (B:List Nat):ASt:=upS (vcSn_s1 B) [(2,.cells (kCdM_11 w c) true),(3,.cells (kCdM_8 30) true)] 4
noncomputable def vcSn_s8 (w:Nat→Nat→Nat) (c:Bool) (B:List Nat):ASt:=upS (vcSn_s2 w B) [(2,.cells (kCdM_10 w c) true),(3,.cells (kCdM_8 38) true)] 4
noncomputable def vcSn_s9 (w:Nat→Nat→Nat) (c:Bool) (B:List Nat):ASt:=upS (vcSn_s3 w B) [(2,.cells (kCdM_3 w c) true),(3,.cells (kCdM_8 46) true)] 4
noncomputable def vcSn_s10:ASt:=mkSt [] 13
theorem vcSn (q:CallT) (w:Nat→Nat→Nat) (c:Bool) (B C:List Nat) (Q:AV×ASt→Prop) :
 Vq (tSn q w c B C) (fun r=>Q (r.1,canS [] r.2)) (as_ (vcSn_s0 B) (kCdM_4 B 4) (kCdM_2 w 4 1) (al (aConvert EG 24 23 (kCdM_2 w 4 1)) (vcSn_s1 B) (kCdM_21 w) (as_ (vcSn_s2 w B) (kCdM_4 B 5) (kCdM_2 w 5 1) (as_ (vcSn_s3 w B) (kCdM_17 w) (.bool c) (as_ (vcSn_s4 w c B) (kCdM_4 B 6) (kCdM_2 w 6 1) (as_ (vcSn_s4 w c B) (kCdM_1 w 6 1 B 7) (kCdM_2 w 6 2) (as_ (vcSn_s4 w c B) (kCdM_1 w 6 2 B 8) (kCdM_2 w 6 3) (as_ (vcSn_s4 w c B) (kCdM_1 w 6 3 B 9) (kCdM_2 w 6 4) (as_ (vcSn_s4 w c B) (kCdM_1 w 6 4 B 10) (kCdM_2 w 6 5) (as_ (vcSn_s4 w c B) (kCdM_1 w 6 5 B 11) (kCdM_2 w 6 6) (as_ (vcSn_s4 w c B) (kCdM_1 w 6 6 B 12) (kCdM_2 w 6 7) (as_ (vcSn_s4 w c B) (kCdM_1 w 6 7 B 13) (kCdM_2 w 6 8) (as_ (vcSn_s5 w c B) (kCdM_4 B 14) (kCdM_2 w 14 1) (as_ (vcSn_s5 w c B) (kCdM_1 w 14 1 B 15) (kCdM_2 w 14 2) (as_ (vcSn_s5 w c B) (kCdM_1 w 14 2 B 16) (kCdM_2 w 14 3) (as_ (vcSn_s5 w c B) (kCdM_1 w 14 3 B 17) (kCdM_2 w 14 4) (as_ (vcSn_s5 w c B) (kCdM_1 w 14 4 B 18) (kCdM_2 w 14 5) (as_ (vcSn_s5 w c B) (kCdM_1 w 14 5 B 19) (kCdM_2 w 14 6) (as_ (vcSn_s5 w c B) (kCdM_1 w 14 6 B 20) (kCdM_2 w 14 7) (as_ (vcSn_s5 w c B) (kCdM_1 w 14 7 B 21) (kCdM_2 w 14 8) (as_ (vcSn_s6 w c B) (kCdM_4 B 22) (kCdM_2 w 22 1) (as_ (vcSn_s6 w c B) (kCdM_1 w 22 1 B 23) (kCdM_2 w 22 2) (as_ (vcSn_s6 w c B) (kCdM_1 w 22 2 B 24) (kCdM_2 w 22 3) (as_ (vcSn_s6 w c B) (kCdM_1 w 22 3 B 25) (kCdM_2 w 22 4) (as_ (vcSn_s6 w c B) (kCdM_1 w 22 4 B 26) (kCdM_2 w 22 5) (as_ (vcSn_s6 w c B) (kCdM_1 w 22 5 B 27) (kCdM_2 w 22 6) (as_ (vcSn_s6 w c B) (kCdM_1 w 22 6 B 28) (kCdM_2 w 22 7) (as_ (vcSn_s6 w c B) (kCdM_1 w 22 7 B 29) (kCdM_2 w 22 8) (as_ (vcSn_s7 w c B) (kCdM_4 B 30) (kCdM_2 w 30 1) (as_ (vcSn_s7 w c B) (kCdM_1 w 30 1 B 31) (kCdM_2 w 30 2) (as_ (vcSn_s7 w c B) (kCdM_1 w 30 2 B 32) (kCdM_2 w 30 3) (as_ (vcSn_s7 w c B) (kCdM_1 w 30 3 B 33) (kCdM_2 w 30 4) (as_ (vcSn_s7 w c B) (kCdM_1 w 30 4 B 34) (kCdM_2 w 30 5) (as_ (vcSn_s7 w c B) (kCdM_1 w 30 5 B 35) (kCdM_2 w 30 6) (as_ (vcSn_s7 w c B) (kCdM_1 w 30 6 B 36) (kCdM_2 w 30 7) (as_ (vcSn_s7 w c B) (kCdM_1 w 30 7 B 37) (kCdM_2 w 30 8) (as_ (vcSn_s8 w c B) (kCdM_4 B 38) (kCdM_2 w 38 1) (as_ (vcSn_s8 w c B) (kCdM_1 w 38 1 B 39) (kCdM_2 w 38 2) (as_ (vcSn_s8 w c B) (kCdM_1 w 38 2 B 40) (kCdM_2 w 38 3) (as_ (vcSn_s8 w c B) (kCdM_1 w 38 3 B 41) (kCdM_2 w 38 4) (as_ (vcSn_s8 w c B) (kCdM_1 w 38 4 B 42) (kCdM_2 w 38 5) (as_ (vcSn_s8 w c B) (kCdM_1 w 38 5 B 43) (kCdM_2 w 38 6) (as_ (vcSn_s8 w c B) (kCdM_1 w 38 6 B 44) (kCdM_2 w 38 7) (as_ (vcSn_s8 w c B) (kCdM_1 w 38 7 B 45) (kCdM_2 w 38 8) (al ((kCdM_16 q 51).call 60 [.agg (kCdM_3 w c)]) (vcSn_s9 w c B) (.tuple [.agg (bl C),.int .i64 (.ofNat 2)]) (ah (holdsO []) (aq (Q (.tuple [.agg kCdM_6,.int .i64 (.ofNat 4)],vcSn_s10))))))))))))))))))))))))))))))))))))))))))))))))):=vq (by kernel_rfl)
end Go.Proofs.YtiafochainjglaaGreatDoor.cd4
end

section
open Go Go.Ax Go.Proofs
namespace Go.Proofs.YtiafochainjglaaGreatDoor.cd4
open cd cd3
set_option linter.unusedVariables false
theorem EGok:Env.Ok Tryz.prog EG:=envEx_ok (xs:=[]) ⟨⟨Tryz.func169,Tryz.call169⟩,⟨Tryz.func199,Tryz.call199⟩,⟨Tryz.func69,Tryz.call69⟩,⟨Tryz.func133,Tryz.call133⟩,trivial⟩ trivial (by kernel_rfl)
section
variable {S:ASt} {x y:Operand}
theorem orG0 {b:Nat} (hb:b<256):still S (aBin EG .or 24 x y (.int .u64 (.ofNat 0)) (.int .u64 (wrapF .u64 (.ofNat b))))=some (.int .u64 (.ofNat (0*256+b)),S):=by
 have e:aBin EG .or 24 x y (.int .u64 (.ofNat 0)) (.int .u64 (wrapF .u64 (.ofNat b)))=some (.int .u64 (wrapF .u64 (.ofNat (Nat.lor 0 (modN (wrapF .u64 (.ofNat b)) 18446744073709551616))))):=by kernel_rfl
 rw[or0 hb] at e
 rw[Nat.zero_mul,Nat.zero_add]
 exact still_of e
theorem orG1 {n b:Nat} (hn:n<72057594037927936) (hb:b<256):still S (aBin EG .or 24 x y (.int .u64 (shlF .u64 (.ofNat n) 8)) (.int .u64 (wrapF .u64 (.ofNat b))))=some (.int .u64 (.ofNat (n*256+b)),S):=by
 have e:aBin EG .or 24 x y (.int .u64 (shlF .u64 (.ofNat n) 8)) (.int .u64 (wrapF .u64 (.ofNat b)))=some (.int .u64 (wrapF .u64 (.ofNat (Nat.lor (modN (shlF .u64 (.ofNat n) 8) 18446744073709551616) (modN (wrapF .u64 (.ofNat b)) 18446744073709551616))))):=by kernel_rfl
 rw[or1 hn hb] at e
 exact still_of e
theorem cvG {b:Nat} (hb:b<256) (S:ASt):aConvert EG 24 23 (.int .u64 (.ofNat b)) S=some (.int .i64 (.ofNat b),S):=by
 have e:aConvert EG 24 23 (.int .u64 (.ofNat b)) S=some (.int .i64 (wrapF .i64 (.ofNat b)),S):=by kernel_rfl
 rw[wrap_nat (by omega)] at e
 exact e
theorem eqG {a b:Int}:still S (aBin EG .eql 24 x y (.int .u64 a) (.int .u64 b))=some (.bool (a == b),S):=by
 have e:aBin EG .eql 24 x y (.int .u64 a) (.int .u64 b)=some (.bool (eqF a b)):=by kernel_rfl
 rw[eqF_eq] at e;exact still_of e
end
theorem ops_or {B:List Nat} (hB:∀i,B.getD i 0<256) {S:ASt} {x y:Operand} (o k:Nat) (hk:k≤6):still S (aBin EG .or 24 x y (.int .u64 (shlF .u64 (.ofNat (pn B o (k+1))) 8)) (.int .u64 (wrapF .u64 (.ofNat (B.getD (o+(k+1)) 0)))))=some (.int .u64 (.ofNat (pn B o (k+2))),S):=orG1 (p7 hB o (k+1) (by omega)) (hB _)
theorem op0_or {B:List Nat} (hB:∀i,B.getD i 0<256) {S:ASt} {x y:Operand} (o:Nat):still S (aBin EG .or 24 x y (.int .u64 (.ofNat 0)) (.int .u64 (wrapF .u64 (.ofNat (B.getD o 0)))))=some (.int .u64 (.ofNat (pn B o 1)),S):=orG0 (hB _)
def supC (B:List Nat):Bool:=B.getD 5 0 == 1
def supV (B:List Nat):AV:=supA (pn B 4 1) (supC B) (pn B 14 8) (pn B 22 8) (pn B 30 8) (pn B 38 8) (pn B 6 8)
def sup0:AV:=supA 0 false 0 0 0 0 0
def supR (B:List Nat):List Nat:=supL (pn B 4 1) (if supC B then 1 else 0) (pn B 6 8) (pn B 14 8) (pn B 22 8) (pn B 30 8) (pn B 38 8)
theorem pn1 (B:List Nat) (o:Nat):pn B o 1=B.getD o 0:=by show 0*256+B.getD (o+0) 0=_;simp
theorem cvG1 {B:List Nat} (hB:∀i,B.getD i 0<256) (S:ASt):aConvert EG 24 23 (.int .u64 (.ofNat (pn B 4 1))) S=some (.int .i64 (.ofNat (pn B 4 1)),S):=by rw[pn1];exact cvG (hB _) _
theorem supU {B:List Nat} (hB:∀i,B.getD i 0<256):U6 (pn B 4 1) (pn B 14 8) (pn B 22 8) (pn B 30 8) (pn B 38 8) (pn B 6 8) :=
 ⟨by rw[pn1];have:=hB 4;omega,p8 hB 14,p8 hB 22,p8 hB 30,p8 hB 38,p8 hB 6⟩
def supM (s a b:Nat):Bool:=(2≤s && s≤4) && (b == 0 || !(b == a))
structure SupOwn (H:List Nat→Nat→Nat):Prop where
 yes:∀{s:Nat} {c:Bool} {a b h k n:Nat} (S:ASt),U6 s a b h k n→supM s a b=true→Call1 Tryz.prog 60 [supA s c a b h k n] S (.tuple [.agg (bl (sealN H (supL s (if c then 1 else 0) n a b h k))),nI 0],S)
 no:∀{s:Nat} {c:Bool} {a b h k n:Nat} (S:ASt),U6 s a b h k n→supM s a b=false→Call1 Tryz.prog 60 [supA s c a b h k n] S (.tuple [.agg (bl []),nI 2],S)
theorem supV_p (B:List Nat):refsV 0 (supV B):=supA_p ..
theorem tup2 {a b:AV} (ha:refsV 0 a) (hb:refsV 0 b):refsV 0 (.tuple [a,b]):=by
 simp only[refsV]
 intro x hx
 simp only[List.mem_cons,List.not_mem_nil,or_false] at hx
 rcases hx with rfl | rfl
 ·exact ha
 ·exact hb
section
variable {q:CallT} {H:List Nat→Nat→Nat}
theorem supR_by {B:List Nat}:∀x,x∈supR B→x<256:=supL_by _ _ _ _ _ _ _ (by split<;>decide)
set_option maxHeartbeats 4000000 in
theorem ofSt (hS:Sums q H) (hO:SupOwn H) (hE:EqB) {B:List Nat} (hB:∀i,B.getD i 0<256) (hm:supM (pn B 4 1) (pn B 14 8) (pn B 22 8)=true) (hd0:decide (blV (sealN H (supR B))=blV B)=true) (S:ASt):Call1 Tryz.prog 169 [.agg (bl B)] S (.tuple [supV B,nI 0],S):=by
 obtain⟨C,hC⟩:∃C,C=sealN H (supR B):=⟨_,rfl⟩
 have hd:decide (blV C=blV B)=true:=by rw[hC];exact hd0
 have hcc:∀(S:ASt) (x y:Operand),still S (aBin EG .eql 24 x y (.int .u64 (.ofNat (pn B 5 1))) (.int .u64 (.ofNat 1)))=some (.bool (supC B),S):=fun S x y=>by
  rw[eqG,pn1]
  congr 3
  unfold supC
  cases h:(B.getD 5 0 == 1)<;>simp at h ⊢<;>omega
 have hA:AtMem Tryz.prog 169 [.agg (bl B)] (mkSt [] 1) (.tuple [supV B,nI 0]):=by
  refine AtMem.of_tm EGok (sum:=onlyC [48,60,95,123] (tabC [(60,[supV B],vcSt_s9 (pn B) (supC B) B,(.tuple [.agg (bl C),nI 0],vcSt_s9 (pn B) (supC B) B)),(123,[.slice (some (4,0)) 256 (.known 256),.slice (some (1,0)) 256 (.known 256)],vcSt_s10 (pn B) (supC B) B C,(.bool true,vcSt_s10 (pn B) (supC B) B C))])) (onlyC_ok (tabC_ok fun w hw=>by
   simp only[List.mem_cons,List.not_mem_nil,or_false] at hw
   rcases hw with rfl | rfl
   ·rw[hC];exact hO.yes _ (supU hB) hm
   ·rw[←hd];exact hE _ 4 1 C B (by rw[hC];exact sealN_by hS supR_by) hB (by kernel_rfl) (by kernel_rfl))) (Eq.mp (vcSt _ (pn B) (supC B) B C (fun r=>r.1=.tuple [supV B,nI 0])) ⟨op0_or hB 4,cvG1 hB _,op0_or hB 5,hcc _ _ _,op0_or hB 6,ops_or hB 6 0 (by omega),ops_or hB 6 1 (by omega),ops_or hB 6 2 (by omega),ops_or hB 6 3 (by omega),ops_or hB 6 4 (by omega),ops_or hB 6 5 (by omega),ops_or hB 6 6 (by omega),op0_or hB 14,ops_or hB 14 0 (by omega),ops_or hB 14 1 (by omega),ops_or hB 14 2 (by omega),ops_or hB 14 3 (by omega),ops_or hB 14 4 (by omega),ops_or hB 14 5 (by omega),ops_or hB 14 6 (by omega),op0_or hB 22,ops_or hB 22 0 (by omega),ops_or hB 22 1 (by omega),ops_or hB 22 2 (by omega),ops_or hB 22 3 (by omega),ops_or hB 22 4 (by omega),ops_or hB 22 5 (by omega),ops_or hB 22 6 (by omega),op0_or hB 30,ops_or hB 30 0 (by omega),ops_or hB 30 1 (by omega),ops_or hB 30 2 (by omega),ops_or hB 30 3 (by omega),ops_or hB 30 4 (by omega),ops_or hB 30 5 (by omega),ops_or hB 30 6 (by omega),op0_or hB 38,ops_or hB 38 0 (by omega),ops_or hB 38 1 (by omega),ops_or hB 38 2 (by omega),ops_or hB 38 3 (by omega),ops_or hB 38 4 (by omega),ops_or hB 38 5 (by omega),ops_or hB 38 6 (by omega),ca (tabC_hd ..),ca (by rw[tabC_tlf rfl];exact tabC_hd ..),(by repeat (first | exact trivial | refine holds_cons rfl ?_)),rfl⟩)
 exact Call1.pureN hA (tup2 (supV_p B) (by simp[nI,refsV])) (fun a ha=>by
  simp only[List.mem_cons,List.not_mem_nil,or_false] at ha
  subst ha
  exact blP B)
set_option maxHeartbeats 4000000 in
theorem ofSf (hS:Sums q H) (hO:SupOwn H) (hE:EqB) {B:List Nat} (hB:∀i,B.getD i 0<256) (hm:supM (pn B 4 1) (pn B 14 8) (pn B 22 8)=true) (hd0:decide (blV (sealN H (supR B))=blV B)=false) (S:ASt):Call1 Tryz.prog 169 [.agg (bl B)] S (.tuple [sup0,nI 4],S):=by
 obtain⟨C,hC⟩:∃C,C=sealN H (supR B):=⟨_,rfl⟩
 have hd:decide (blV C=blV B)=false:=by rw[hC];exact hd0
 have hcc:∀(S:ASt) (x y:Operand),still S (aBin EG .eql 24 x y (.int .u64 (.ofNat (pn B 5 1))) (.int .u64 (.ofNat 1)))=some (.bool (supC B),S):=fun S x y=>by
  rw[eqG,pn1]
  congr 3
  unfold supC
  cases h:(B.getD 5 0 == 1)<;>simp at h ⊢<;>omega
 have hA:AtMem Tryz.prog 169 [.agg (bl B)] (mkSt [] 1) (.tuple [sup0,nI 4]):=by
  refine AtMem.of_tm EGok (sum:=onlyC [48,60,95,123] (tabC [(60,[supV B],vcSf_s9 (pn B) (supC B) B,(.tuple [.agg (bl C),nI 0],vcSf_s9 (pn B) (supC B) B)),(123,[.slice (some (4,0)) 256 (.known 256),.slice (some (1,0)) 256 (.known 256)],vcSf_s10 (pn B) (supC B) B C,(.bool false,vcSf_s10 (pn B) (supC B) B C))])) (onlyC_ok (tabC_ok fun w hw=>by
   simp only[List.mem_cons,List.not_mem_nil,or_false] at hw
   rcases hw with rfl | rfl
   ·rw[hC];exact hO.yes _ (supU hB) hm
   ·rw[←hd];exact hE _ 4 1 C B (by rw[hC];exact sealN_by hS supR_by) hB (by kernel_rfl) (by kernel_rfl))) (Eq.mp (vcSf _ (pn B) (supC B) B C (fun r=>r.1=.tuple [sup0,nI 4])) ⟨op0_or hB 4,cvG1 hB _,op0_or hB 5,hcc _ _ _,op0_or hB 6,ops_or hB 6 0 (by omega),ops_or hB 6 1 (by omega),ops_or hB 6 2 (by omega),ops_or hB 6 3 (by omega),ops_or hB 6 4 (by omega),ops_or hB 6 5 (by omega),ops_or hB 6 6 (by omega),op0_or hB 14,ops_or hB 14 0 (by omega),ops_or hB 14 1 (by omega),ops_or hB 14 2 (by omega),ops_or hB 14 3 (by omega),ops_or hB 14 4 (by omega),ops_or hB 14 5 (by omega),ops_or hB 14 6 (by omega),op0_or hB 22,ops_or hB 22 0 (by omega),ops_or hB 22 1 (by omega),ops_or hB 22 2 (by omega),ops_or hB 22 3 (by omega),ops_or hB 22 4 (by omega),ops_or hB 22 5 (by omega),ops_or hB 22 6 (by omega),op0_or hB 30,ops_or hB 30 0 (by omega),ops_or hB 30 1 (by omega),ops_or hB 30 2 (by omega),ops_or hB 30 3 (by omega),ops_or hB 30 4 (by omega),ops_or hB 30 5 (by omega),ops_or hB 30 6 (by omega),op0_or hB 38,ops_or hB 38 0 (by omega),ops_or hB 38 1 (by omega),ops_or hB 38 2 (by omega),ops_or hB 38 3 (by omega),ops_or hB 38 4 (by omega),ops_or hB 38 5 (by omega),ops_or hB 38 6 (by omega),ca (tabC_hd ..),ca (by rw[tabC_tlf rfl];exact tabC_hd ..),(by repeat (first | exact trivial | refine holds_cons rfl ?_)),rfl⟩)
 exact Call1.pureN hA (tup2 (supA_p ..) (by simp[nI,refsV])) (fun a ha=>by
  simp only[List.mem_cons,List.not_mem_nil,or_false] at ha
  subst ha
  exact blP B)
set_option maxHeartbeats 4000000 in
theorem ofSn (hS:Sums q H) (hO:SupOwn H) (hE:EqB) {B:List Nat} (hB:∀i,B.getD i 0<256) (hm:supM (pn B 4 1) (pn B 14 8) (pn B 22 8)=false) (S:ASt):Call1 Tryz.prog 169 [.agg (bl B)] S (.tuple [sup0,nI 4],S):=by
 obtain⟨C,hC⟩:∃C,C=[]:=⟨_,rfl⟩
 have hcc:∀(S:ASt) (x y:Operand),still S (aBin EG .eql 24 x y (.int .u64 (.ofNat (pn B 5 1))) (.int .u64 (.ofNat 1)))=some (.bool (supC B),S):=fun S x y=>by
  rw[eqG,pn1]
  congr 3
  unfold supC
  cases h:(B.getD 5 0 == 1)<;>simp at h ⊢<;>omega
 have hA:AtMem Tryz.prog 169 [.agg (bl B)] (mkSt [] 1) (.tuple [sup0,nI 4]):=by
  refine AtMem.of_tm EGok (sum:=onlyC [48,60,95,123] (tabC [(60,[supV B],vcSn_s9 (pn B) (supC B) B,(.tuple [.agg (bl C),nI 2],vcSn_s9 (pn B) (supC B) B))])) (onlyC_ok (tabC_ok fun w hw=>by
   simp only[List.mem_cons,List.not_mem_nil,or_false] at hw
   subst hw
   rw[hC];exact hO.no _ (supU hB) hm)) (Eq.mp (vcSn _ (pn B) (supC B) B C (fun r=>r.1=.tuple [sup0,nI 4])) ⟨op0_or hB 4,cvG1 hB _,op0_or hB 5,hcc _ _ _,op0_or hB 6,ops_or hB 6 0 (by omega),ops_or hB 6 1 (by omega),ops_or hB 6 2 (by omega),ops_or hB 6 3 (by omega),ops_or hB 6 4 (by omega),ops_or hB 6 5 (by omega),ops_or hB 6 6 (by omega),op0_or hB 14,ops_or hB 14 0 (by omega),ops_or hB 14 1 (by omega),ops_or hB 14 2 (by omega),ops_or hB 14 3 (by omega),ops_or hB 14 4 (by omega),ops_or hB 14 5 (by omega),ops_or hB 14 6 (by omega),op0_or hB 22,ops_or hB 22 0 (by omega),ops_or hB 22 1 (by omega),ops_or hB 22 2 (by omega),ops_or hB 22 3 (by omega),ops_or hB 22 4 (by omega),ops_or hB 22 5 (by omega),ops_or hB 22 6 (by omega),op0_or hB 30,ops_or hB 30 0 (by omega),ops_or hB 30 1 (by omega),ops_or hB 30 2 (by omega),ops_or hB 30 3 (by omega),ops_or hB 30 4 (by omega),ops_or hB 30 5 (by omega),ops_or hB 30 6 (by omega),op0_or hB 38,ops_or hB 38 0 (by omega),ops_or hB 38 1 (by omega),ops_or hB 38 2 (by omega),ops_or hB 38 3 (by omega),ops_or hB 38 4 (by omega),ops_or hB 38 5 (by omega),ops_or hB 38 6 (by omega),ca (tabC_hd ..),(by repeat (first | exact trivial | refine holds_cons rfl ?_)),rfl⟩)
 exact Call1.pureN hA (tup2 (supA_p ..) (by simp[nI,refsV])) (fun a ha=>by
  simp only[List.mem_cons,List.not_mem_nil,or_false] at ha
  subst ha
  exact blP B)
end
end Go.Proofs.YtiafochainjglaaGreatDoor.cd4
end

section
open Go Go.Ax Go.Proofs
namespace Go.Proofs.YtiafochainjglaaGreatDoor.cd5
set_option linter.unusedVariables false
open cd cd3 cd4
noncomputable def EM:Env:=envEx Tryz.prog [0,3,4,23,24,25,27,29] [(76,Tryz.f76),(48,Tryz.f48)] []
noncomputable def flM:List (Nat×Fl):=[(76,⟨[5,9,15,23],[],[],[]⟩),(48,⟨[5,9,15,23],[],[],[]⟩)]
def fl0:Fl:=⟨[],[],[],[]⟩
noncomputable abbrev kCdR_3 (a:Int) (b:Bool) (c d e f g:Int):List AV:=[.int .i64 a,.bool b,.int .u64 c,.int .u64 d,.int .u64 e,.int .u64 f,.int .u64 g]
noncomputable abbrev kCdR_5:=TM EM noSum flM fl0 60
noncomputable def tOa (s a b h k n:Int) (c e:Bool):Tr (AV×ASt):=kCdR_5.call 76 [.agg (kCdR_3 s c a b h k n)] (mkSt [] 1)
noncomputable def tOb (s a b h k n:Int) (c e:Bool):Tr (AV×ASt):=kCdR_5.call 76 [.agg (kCdR_3 s c a b h k n)] (mkSt [] 1)
noncomputable def tOc (s a b h k n:Int) (c e:Bool):Tr (AV×ASt):=kCdR_5.call 76 [.agg (kCdR_3 s c a b h k n)] (mkSt [] 1)
noncomputable def tOd (s a b h k n:Int) (c e:Bool):Tr (AV×ASt):=kCdR_5.call 76 [.agg (kCdR_3 s c a b h k n)] (mkSt [] 1)
noncomputable def tRa (s a b h k n:Int) (c e:Bool):Tr (AV×ASt):=kCdR_5.call 48 [.agg (kCdR_3 s c a b h k n)] (mkSt [] 1)
noncomputable def tRb (s a b h k n:Int) (c e:Bool):Tr (AV×ASt):=kCdR_5.call 48 [.agg (kCdR_3 s c a b h k n)] (mkSt [] 1)
noncomputable def tRc (s a b h k n:Int) (c e:Bool):Tr (AV×ASt):=kCdR_5.call 48 [.agg (kCdR_3 s c a b h k n)] (mkSt [] 1)
noncomputable def tRd (s a b h k n:Int) (c e:Bool):Tr (AV×ASt):=kCdR_5.call 48 [.agg (kCdR_3 s c a b h k n)] (mkSt [] 1)
noncomputable abbrev kCdR_1 (a:Int) (b:Bool) (c d e f g:Int):List AV:=[.int .i64 a,.bool b,.int .u64 c,.int .u64 d,.int .u64 e,.int .u64 f,.int .u64 g]
noncomputable def vcOa_s0 (s a b h k n:Int) (c:Bool):ASt:=mkSt [(1,.cells (kCdR_1 s c a b h k n) true)] 2
noncomputable def vcOa_s1:ASt:=mkSt [] 2
noncomputable abbrev kCdR_0 (a:Int):=aBin EM BinOp.geq 23 (Operand.tmp 4) (Operand.const (Value.int .i64 2)) (AV.int .i64 a) (AV.int .i64 (.ofNat 2))
theorem vcOa (s a b h k n:Int) (c e:Bool) (Q:AV×ASt→Prop) :
 Vq (tOa s a b h k n c e) (fun r=>Q (r.1,canS [] r.2)) (as_ (vcOa_s0 s a b h k n c) (kCdR_0 s) (.bool false) (aq (Q (.bool false,vcOa_s1)))):=vq (by kernel_rfl)
noncomputable def vcOb_s0 (s a b h k n:Int) (c:Bool):ASt:=mkSt [(1,.cells (kCdR_1 s c a b h k n) true)] 2
noncomputable def vcOb_s1:ASt:=mkSt [] 2
noncomputable abbrev kCdR_2 (a:Int):=aBin EM BinOp.leq 23 (Operand.tmp 8) (Operand.const (Value.int .i64 4)) (AV.int .i64 a) (AV.int .i64 (.ofNat 4))
theorem vcOb (s a b h k n:Int) (c e:Bool) (Q:AV×ASt→Prop) :
 Vq (tOb s a b h k n c e) (fun r=>Q (r.1,canS [] r.2)) (as_ (vcOb_s0 s a b h k n c) (kCdR_0 s) (.bool true) (as_ (vcOb_s0 s a b h k n c) (kCdR_2 s) (.bool false) (aq (Q (.bool false,vcOb_s1))))):=vq (by kernel_rfl)
noncomputable def vcOc_s0 (s a b h k n:Int) (c:Bool):ASt:=mkSt [(1,.cells (kCdR_1 s c a b h k n) true)] 2
noncomputable def vcOc_s1:ASt:=mkSt [] 2
noncomputable abbrev kCdR_4 (a:Int):=aBin EM BinOp.eql 24 (Operand.tmp 14) (Operand.const (Value.int .u64 0)) (AV.int .u64 a) (AV.int .u64 (.ofNat 0))
theorem vcOc (s a b h k n:Int) (c e:Bool) (Q:AV×ASt→Prop) :
 Vq (tOc s a b h k n c e) (fun r=>Q (r.1,canS [] r.2)) (as_ (vcOc_s0 s a b h k n c) (kCdR_0 s) (.bool true) (as_ (vcOc_s0 s a b h k n c) (kCdR_2 s) (.bool true) (as_ (vcOc_s0 s a b h k n c) (kCdR_4 b) (.bool true) (aq (Q (.bool true,vcOc_s1)))))):=vq (by kernel_rfl)
noncomputable def vcOd_s0 (s a b h k n:Int) (c:Bool):ASt:=mkSt [(1,.cells (kCdR_1 s c a b h k n) true)] 2
noncomputable def vcOd_s1:ASt:=mkSt [] 2
theorem vcOd (s a b h k n:Int) (c e:Bool) (Q:AV×ASt→Prop) :
 Vq (tOd s a b h k n c e) (fun r=>Q (r.1,canS [] r.2)) (as_ (vcOd_s0 s a b h k n c) (kCdR_0 s) (.bool true) (as_ (vcOd_s0 s a b h k n c) (kCdR_2 s) (.bool true) (as_ (vcOd_s0 s a b h k n c) (kCdR_4 b) (.bool false) (as_ (vcOd_s0 s a b h k n c) (aBin EM .neq 24 (.tmp 19) (.tmp 22) (.int .u64 b) (.int .u64 a)) (.bool e) (aq (Q (.bool e,vcOd_s1))))))):=vq (by kernel_rfl)
noncomputable def vcRa_s0 (s a b h k n:Int) (c:Bool):ASt:=mkSt [(1,.cells (kCdR_1 s c a b h k n) true)] 2
noncomputable def vcRa_s1:ASt:=mkSt [] 2
theorem vcRa (s a b h k n:Int) (c e:Bool) (Q:AV×ASt→Prop) :
 Vq (tRa s a b h k n c e) (fun r=>Q (r.1,canS [] r.2)) (as_ (vcRa_s0 s a b h k n c) (kCdR_0 s) (.bool false) (aq (Q (.bool false,vcRa_s1)))):=vq (by kernel_rfl)
noncomputable def vcRb_s0 (s a b h k n:Int) (c:Bool):ASt:=mkSt [(1,.cells (kCdR_1 s c a b h k n) true)] 2
noncomputable def vcRb_s1:ASt:=mkSt [] 2
theorem vcRb (s a b h k n:Int) (c e:Bool) (Q:AV×ASt→Prop) :
 Vq (tRb s a b h k n c e) (fun r=>Q (r.1,canS [] r.2)) (as_ (vcRb_s0 s a b h k n c) (kCdR_0 s) (.bool true) (as_ (vcRb_s0 s a b h k n c) (kCdR_2 s) (.bool false) (aq (Q (.bool false,vcRb_s1))))):=vq (by kernel_rfl)
noncomputable def vcRc_s0 (s a b h k n:Int) (c:Bool):ASt:=mkSt [(1,.cells (kCdR_1 s c a b h k n) true)] 2
noncomputable def vcRc_s1:ASt:=mkSt [] 2
theorem vcRc (s a b h k n:Int) (c e:Bool) (Q:AV×ASt→Prop) :
 Vq (tRc s a b h k n c e) (fun r=>Q (r.1,canS [] r.2)) (as_ (vcRc_s0 s a b h k n c) (kCdR_0 s) (.bool true) (as_ (vcRc_s0 s a b h k n c) (kCdR_2 s) (.bool true) (as_ (vcRc_s0 s a b h k n c) (kCdR_4 b) (.bool true) (aq (Q (.bool true,vcRc_s1)))))):=vq (by kernel_rfl)
noncomputable def vcRd_s0 (s a b h k n:Int) (c:Bool):ASt:=mkSt [(1,.cells (kCdR_1 s c a b h k n) true)] 2
noncomputable def vcRd_s1:ASt:=mkSt [] 2
theorem vcRd (s a b h k n:Int) (c e:Bool) (Q:AV×ASt→Prop) :
 Vq (tRd s a b h k n c e) (fun r=>Q (r.1,canS [] r.2)) (as_ (vcRd_s0 s a b h k n c) (kCdR_0 s) (.bool true) (as_ (vcRd_s0 s a b h k n c) (kCdR_2 s) (.bool true) (as_ (vcRd_s0 s a b h k n c) (kCdR_4 b) (.bool false) (as_ (vcRd_s0 s a b h k n c) (aBin EM .neq 24 (.tmp 19) (.tmp 22) (.int .u64 b) (.int .u64 a)) (.bool e) (aq (Q (.bool e,vcRd_s1))))))):=vq (by kernel_rfl)
theorem EMok:Env.Ok Tryz.prog EM:=envEx_ok (xs:=[]) ⟨⟨Tryz.func76,Tryz.call76⟩,⟨Tryz.func48,Tryz.call48⟩,trivial⟩ trivial (by kernel_rfl)
section
variable {S:ASt} {x y:Operand} {a b:Int}
theorem mGeq:still S (aBin EM .geq 23 x y (.int .i64 a) (.int .i64 b))=some (.bool (!decide (a<b)),S):=by
 have e:aBin EM .geq 23 x y (.int .i64 a) (.int .i64 b)=some (.bool (!ltF a b)):=by kernel_rfl
 rw[ltF_eq] at e;exact still_of e
theorem mLeq:still S (aBin EM .leq 23 x y (.int .i64 a) (.int .i64 b))=some (.bool (!decide (b<a)),S):=by
 have e:aBin EM .leq 23 x y (.int .i64 a) (.int .i64 b)=some (.bool (!ltF b a)):=by kernel_rfl
 rw[ltF_eq] at e;exact still_of e
theorem mEql:still S (aBin EM .eql 24 x y (.int .u64 a) (.int .u64 b))=some (.bool (a == b),S):=by
 have e:aBin EM .eql 24 x y (.int .u64 a) (.int .u64 b)=some (.bool (eqF a b)):=by kernel_rfl
 rw[eqF_eq] at e;exact still_of e
theorem mNeq:still S (aBin EM .neq 24 x y (.int .u64 a) (.int .u64 b))=some (.bool (!(a == b)),S):=by
 have e:aBin EM .neq 24 x y (.int .u64 a) (.int .u64 b)=some (.bool (!eqF a b)):=by kernel_rfl
 rw[eqF_eq] at e;exact still_of e
end
theorem mayO {s:Nat} {c:Bool} {a b h k n:Nat} (S:ASt):Call1 Tryz.prog 76 [supA s c a b h k n] S (.bool (supM s a b),S):=by
 have hA:AtMem Tryz.prog 76 [supA s c a b h k n] (mkSt [] 1) (.bool (supM s a b)):=by
  by_cases h1:s<2
  ·have:supM s a b=false:=by unfold supM;simp;omega
   rw[this]
   exact AtMem.of_tm EMok noSum_ok (Eq.mp (vcOa (.ofNat s) (.ofNat a) (.ofNat b) (.ofNat h) (.ofNat k) (.ofNat n) c false (fun r=>r.1=.bool false)) ⟨by rw[mGeq,decide_eq_true (by simp only[Int.ofNat_eq_natCast];omega)];rfl,rfl⟩)
  have g1:∀(S:ASt) (x y:Operand),still S (aBin EM .geq 23 x y (.int .i64 (.ofNat s)) (.int .i64 (.ofNat 2)))=some (.bool true,S):=fun S x y=>by rw[mGeq,decide_eq_false (by simp only[Int.ofNat_eq_natCast];omega)];rfl
  by_cases h2:4<s
  ·have:supM s a b=false:=by unfold supM;simp;omega
   rw[this]
   exact AtMem.of_tm EMok noSum_ok (Eq.mp (vcOb (.ofNat s) (.ofNat a) (.ofNat b) (.ofNat h) (.ofNat k) (.ofNat n) c false (fun r=>r.1=.bool false)) ⟨g1 _ _ _,by rw[mLeq,decide_eq_true (by simp only[Int.ofNat_eq_natCast];omega)];rfl,rfl⟩)
  have g2:∀(S:ASt) (x y:Operand),still S (aBin EM .leq 23 x y (.int .i64 (.ofNat s)) (.int .i64 (.ofNat 4)))=some (.bool true,S):=fun S x y=>by rw[mLeq,decide_eq_false (by simp only[Int.ofNat_eq_natCast];omega)];rfl
  by_cases h3:b=0
  ·have:supM s a b=true:=by unfold supM;simp[h3];omega
   rw[this]
   subst h3
   exact AtMem.of_tm EMok noSum_ok (Eq.mp (vcOc (.ofNat s) (.ofNat a) (.ofNat 0) (.ofNat h) (.ofNat k) (.ofNat n) c false (fun r=>r.1=.bool true)) ⟨g1 _ _ _,g2 _ _ _,mEql,rfl⟩)
  ·have:supM s a b=!(b == a):=by
    have e0:(b == 0)=false:=by simpa using h3
    have e1:(2≤s && s≤4:Bool)=true:=by simp;omega
    unfold supM
    rw[e0,e1];rfl
   rw[this]
   exact AtMem.of_tm EMok noSum_ok (Eq.mp (vcOd (.ofNat s) (.ofNat a) (.ofNat b) (.ofNat h) (.ofNat k) (.ofNat n) c (!(b == a)) (fun r=>r.1=.bool (!(b == a)))) ⟨g1 _ _ _,g2 _ _ _,by
    rw[mEql]
    have:(Int.ofNat b == Int.ofNat 0)=false:=by simp only[Int.ofNat_eq_natCast,beq_eq_false_iff_ne,ne_eq];omega
    rw[this],by
    rw[mNeq]
    congr 4
    cases hb:(b == a)<;>simp at hb ⊢<;>omega,rfl⟩)
 exact Call1.pureN hA (by simp[refsV]) (fun x hx=>by
  simp only[List.mem_cons,List.not_mem_nil,or_false] at hx
  subst hx
  exact supA_p ..)
theorem mayR {s:Nat} {c:Bool} {a b h k n:Nat} (S:ASt):Call1 Tryz.prog 48 [supA s c a b h k n] S (.bool (supM s a b),S):=by
 have hA:AtMem Tryz.prog 48 [supA s c a b h k n] (mkSt [] 1) (.bool (supM s a b)):=by
  by_cases h1:s<2
  ·have:supM s a b=false:=by unfold supM;simp;omega
   rw[this]
   exact AtMem.of_tm EMok noSum_ok (Eq.mp (vcRa (.ofNat s) (.ofNat a) (.ofNat b) (.ofNat h) (.ofNat k) (.ofNat n) c false (fun r=>r.1=.bool false)) ⟨by rw[mGeq,decide_eq_true (by simp only[Int.ofNat_eq_natCast];omega)];rfl,rfl⟩)
  have g1:∀(S:ASt) (x y:Operand),still S (aBin EM .geq 23 x y (.int .i64 (.ofNat s)) (.int .i64 (.ofNat 2)))=some (.bool true,S):=fun S x y=>by rw[mGeq,decide_eq_false (by simp only[Int.ofNat_eq_natCast];omega)];rfl
  by_cases h2:4<s
  ·have:supM s a b=false:=by unfold supM;simp;omega
   rw[this]
   exact AtMem.of_tm EMok noSum_ok (Eq.mp (vcRb (.ofNat s) (.ofNat a) (.ofNat b) (.ofNat h) (.ofNat k) (.ofNat n) c false (fun r=>r.1=.bool false)) ⟨g1 _ _ _,by rw[mLeq,decide_eq_true (by simp only[Int.ofNat_eq_natCast];omega)];rfl,rfl⟩)
  have g2:∀(S:ASt) (x y:Operand),still S (aBin EM .leq 23 x y (.int .i64 (.ofNat s)) (.int .i64 (.ofNat 4)))=some (.bool true,S):=fun S x y=>by rw[mLeq,decide_eq_false (by simp only[Int.ofNat_eq_natCast];omega)];rfl
  by_cases h3:b=0
  ·have:supM s a b=true:=by unfold supM;simp[h3];omega
   rw[this]
   subst h3
   exact AtMem.of_tm EMok noSum_ok (Eq.mp (vcRc (.ofNat s) (.ofNat a) (.ofNat 0) (.ofNat h) (.ofNat k) (.ofNat n) c false (fun r=>r.1=.bool true)) ⟨g1 _ _ _,g2 _ _ _,mEql,rfl⟩)
  ·have:supM s a b=!(b == a):=by
    have e0:(b == 0)=false:=by simpa using h3
    have e1:(2≤s && s≤4:Bool)=true:=by simp;omega
    unfold supM
    rw[e0,e1];rfl
   rw[this]
   exact AtMem.of_tm EMok noSum_ok (Eq.mp (vcRd (.ofNat s) (.ofNat a) (.ofNat b) (.ofNat h) (.ofNat k) (.ofNat n) c (!(b == a)) (fun r=>r.1=.bool (!(b == a)))) ⟨g1 _ _ _,g2 _ _ _,by
    rw[mEql]
    have:(Int.ofNat b == Int.ofNat 0)=false:=by simp only[Int.ofNat_eq_natCast,beq_eq_false_iff_ne,ne_eq];omega
    rw[this],by
    rw[mNeq]
    congr 4
    cases hb:(b == a)<;>simp at hb ⊢<;>omega,rfl⟩)
 exact Call1.pureN hA (by simp[refsV]) (fun x hx=>by
  simp only[List.mem_cons,List.not_mem_nil,or_false] at hx
  subst hx
  exact supA_p ..)
end Go.Proofs.YtiafochainjglaaGreatDoor.cd5
end

section
open Go Go.Ax Go.Proofs
namespace Go.Proofs.YtiafochainjglaaGreatDoor.cd5
open cd cd3 cd4
set_option linter.unusedVariables false
open Classical in
noncomputable def mayC (A:AV) (e:Bool):CallT:=fun f args st=>if f=76∧args=[A] then some (.bool e,st) else none
theorem mayC_ok {A:AV} {e:Bool} (h:∀S,Call1 Tryz.prog 76 [A] S (.bool e,S)):CallsOK Tryz.prog (mayC A e):=fun B w0 f args st r hr ι w args' hsr hv=>by
 unfold mayC at hr
 split at hr
 ·rename_i hh
  obtain⟨rfl,rfl⟩:=hh
  simp only[Option.some.injEq] at hr
  subst hr
  exact h st B w0 ι w args' hsr hv
 ·cases hr
theorem mayC_at (A:AV) (e:Bool) (S:ASt):mayC A e 76 [A] S=some (.bool e,S):=by unfold mayC;simp
theorem mayC_no {A:AV} {e:Bool} {f:Nat} {args:List AV} {S:ASt} (h:f≠76):mayC A e f args S=none:=by unfold mayC;simp[h]
theorem sums_or {q:CallT} {H:List Nat→Nat→Nat} (hS:Sums q H) {A:AV} {e:Bool} (h:∀S,Call1 Tryz.prog 76 [A] S (.bool e,S)):Sums (orC (mayC A e) q) H :=
 ⟨orC_ok (mayC_ok h) hS.ok,hS.lt,fun h1 h2 h3 h4=>orC_r (mayC_no (by decide)) (hS.own h1 h2 h3 h4),fun h1 h2 h3 h4=>orC_r (mayC_no (by decide)) (hS.ref h1 h2 h3 h4)⟩
theorem zs_bl:cd.zs 256=bl []:=by kernel_rfl
theorem supOwn {q:CallT} {H:List Nat→Nat→Nat} (hS:Sums q H):SupOwn H :=
 ⟨fun {s c a b h k n} S U hm=>by
   have hM:∀c S,Call1 Tryz.prog 76 [supA s c a b h k n] S (.bool true,S):=fun c S=>by rw[←hm];exact mayO S
   cases c
   ·exact atSBf (sums_or hS (hM false)) U (fun S=>orC_l (mayC_at _ _ S)) S
   ·exact atSBt (sums_or hS (hM true)) U (fun S=>orC_l (mayC_at _ _ S)) S,
  fun {s c a b h k n} S U hm=>by
   have hM:∀S,Call1 Tryz.prog 76 [supA s c a b h k n] S (.bool false,S):=fun S=>by rw[←hm];exact mayO S
   have hh:AtMem Tryz.prog 60 [supA s c a b h k n] (mkSt [] 1) (.tuple [.agg (bl []),nI 2]) :=
    AtMem.of_tm ECok (onlyC_ok (mayC_ok hM)) (Eq.mp (vcSBn (mayC (supA s c a b h k n) false) (.ofNat s) (.ofNat a) (.ofNat b) (.ofNat h) (.ofNat k) (.ofNat n) c (fun r=>r.1=.tuple [.agg (bl []),nI 2])) ⟨ca (mayC_at _ _ _),congrArg (fun x=>AV.tuple [AV.agg x,nI 2]) zs_bl⟩)
   exact Call1.pureN hh (tup2 (blP _) (by simp[nI,refsV])) (fun x hx=>by
    simp only[List.mem_cons,List.not_mem_nil,or_false] at hx
    subst hx
    exact supA_p ..)⟩
end Go.Proofs.YtiafochainjglaaGreatDoor.cd5
end
