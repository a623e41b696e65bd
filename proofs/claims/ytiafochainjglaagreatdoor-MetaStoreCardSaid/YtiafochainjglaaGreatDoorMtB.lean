/-
  OWN WORK, A PART: an abstract machine for the program's text that the kernel can run, and the proof that it is sound: what it answers is what the program answers; contracts of functions by it. No condition.
-/
import Derived.Test.YtiafochainjglaaGreatDoorMtA
import Derived.Test.YtiafochainjglaaGreatDoorRows
import Derived.Test.YtiafochainjglaaGreatDoorWaF
import Derived.KernelRfl
section
open Go Go.Ax Go.Proofs
namespace Go.Proofs.YtiafochainjglaaGreatDoor.cd3
set_option linter.unusedVariables false
noncomputable def q2n:List (Nat×Func):=[(57,Tryz.f57),(59,Tryz.f59),(71,Tryz.f71),(72,Tryz.f72),(133,Tryz.f133)]
noncomputable def EF:Env:=envEx Tryz.prog [0,3,4,5,24,34,37,54,75,176] q2n []
def fl0:Fl:=⟨[],[],[],[]⟩
noncomputable def flF:List (Nat×Fl):=[(57,⟨[17,20,23],[],[],[]⟩),(59,⟨[18,27,30,33],[],[],[]⟩),(71,⟨[8,10],[6],[],[]⟩),(72,⟨[16,19,21],[8],[],[]⟩),(133,⟨[18],[],[],[]⟩)]
noncomputable abbrev qN3 (a:CallT):=TM EF (qA0 [62,63,97,98,123] a) flF fl0 60
noncomputable def qBv (B:List Nat):ASt:=mkSt [(1,.cells (bl B) true)] 2
noncomputable def qJU (B C:List Nat):ASt:=upS (qBv B) [(2,.cells (bl C) true)] 7
noncomputable def qSd:ASt:=mkSt [] 7
noncomputable abbrev qQv (a:List Nat) (b:Nat):=Int.ofNat (List.getD a b 0)
noncomputable abbrev qVC (a:List Nat) (b:Nat):=AV.int .u64 (qAH .u64 (qQv a b))
noncomputable abbrev qBP (a b c:Nat) (d:List Nat) (e:Nat):=qAD EF BinOp.or 24 (Operand.tmp a) (Operand.tmp b) (AV.int .u64 (qDO .u64 (.ofNat c) 8)) (qVC d e)
noncomputable abbrev qBD (a:Nat):=AV.int .u64 (.ofNat a)
noncomputable abbrev qGn (a:CallT) (b:Nat):=M EF (drawA EF) (qA0 [62,63,97,98,123] a) b
noncomputable abbrev qN2:List AV:=[.slice (some (2,0)) 256 (.known 256),.slice (some (1,0)) 256 (.known 256)]
noncomputable abbrev qJu (a b:Nat) (c:List Nat):=qAD EF BinOp.or 24 (Operand.tmp a) (Operand.tmp b) (qBD 0) (qVC c 4)
theorem q14 (q:CallT) (w:Nat→Nat) (u:Nat) (B C:List Nat) (Q:AV×ASt→Prop) :
 Vq ((qN3 q).call 57 [.agg (bl B)] (mkSt [] 1)) (fun r=>Q (r.1,qG7 [] r.2)) (as_ (qBv B) (qJu 14 16 B) (qBD (w 1)) (as_ (qBv B) (qBP 14 16 (w 1) B 5) (qBD (w 2)) (as_ (qBv B) (qBP 14 16 (w 2) B 6) (qBD (w 3)) (as_ (qBv B) (qBP 14 16 (w 3) B 7) (qBD (w 4)) (as_ (qBv B) (qBP 14 16 (w 4) B 8) (qBD (w 5)) (as_ (qBv B) (qBP 14 16 (w 5) B 9) (qBD (w 6)) (as_ (qBv B) (qBP 14 16 (w 6) B 10) (qBD (w 7)) (as_ (qBv B) (qBP 14 16 (w 7) B 11) (qBD (w 8)) (al ((qGn q 54).call 62 [.int .u64 (.ofNat (w 8))]) (qBv B) (.agg (bl C)) (al ((qGn q 53).call 123 qN2) (qJU B C) (.bool true) (ah (qAh []) (aq (Q (.tuple [.int .u64 (.ofNat (w 8)),.int .i64 (.ofNat 0)],qSd)))))))))))))):=vq (by kernel_rfl)
noncomputable def qBw (B:List Nat):ASt:=mkSt [(1,.cells (bl B) true)] 2
noncomputable def qJV (B C:List Nat):ASt:=upS (qBw B) [(2,.cells (bl C) true)] 7
noncomputable def qSe:ASt:=mkSt [] 7
theorem q15 (q:CallT) (w:Nat→Nat) (u:Nat) (B C:List Nat) (Q:AV×ASt→Prop) :
 Vq ((qN3 q).call 57 [.agg (bl B)] (mkSt [] 1)) (fun r=>Q (r.1,qG7 [] r.2)) (as_ (qBw B) (qJu 14 16 B) (qBD (w 1)) (as_ (qBw B) (qBP 14 16 (w 1) B 5) (qBD (w 2)) (as_ (qBw B) (qBP 14 16 (w 2) B 6) (qBD (w 3)) (as_ (qBw B) (qBP 14 16 (w 3) B 7) (qBD (w 4)) (as_ (qBw B) (qBP 14 16 (w 4) B 8) (qBD (w 5)) (as_ (qBw B) (qBP 14 16 (w 5) B 9) (qBD (w 6)) (as_ (qBw B) (qBP 14 16 (w 6) B 10) (qBD (w 7)) (as_ (qBw B) (qBP 14 16 (w 7) B 11) (qBD (w 8)) (al ((qGn q 54).call 62 [.int .u64 (.ofNat (w 8))]) (qBw B) (.agg (bl C)) (al ((qGn q 53).call 123 qN2) (qJV B C) (.bool false) (ah (qAh []) (aq (Q (.tuple [.int .u64 (.ofNat 0),.int .i64 (.ofNat 4)],qSe)))))))))))))):=vq (by kernel_rfl)
noncomputable def qBi (B:List Nat):ASt:=mkSt [(1,.cells (bl B) true)] 2
noncomputable def qJW (B C:List Nat):ASt:=upS (qBi B) [(2,.cells (bl C) true)] 7
noncomputable def qSf:ASt:=mkSt [] 7
noncomputable abbrev qQx (a:List Nat):=qAD EF BinOp.or 34 (Operand.tmp 23) (Operand.tmp 26) (AV.int .u16 (qDO .u16 (qAH .u16 (qQv a 12)) 8)) (AV.int .u16 (qAH .u16 (qQv a 13)))
noncomputable abbrev qQw (a b:Nat):List AV:=[.int .u64 (.ofNat a),.int .u16 (.ofNat b)]
theorem q16 (q:CallT) (w:Nat→Nat) (u:Nat) (B C:List Nat) (Q:AV×ASt→Prop) :
 Vq ((qN3 q).call 59 [.agg (bl B)] (mkSt [] 1)) (fun r=>Q (r.1,qG7 [] r.2)) (as_ (qBi B) (qJu 15 17 B) (qBD (w 1)) (as_ (qBi B) (qBP 15 17 (w 1) B 5) (qBD (w 2)) (as_ (qBi B) (qBP 15 17 (w 2) B 6) (qBD (w 3)) (as_ (qBi B) (qBP 15 17 (w 3) B 7) (qBD (w 4)) (as_ (qBi B) (qBP 15 17 (w 4) B 8) (qBD (w 5)) (as_ (qBi B) (qBP 15 17 (w 5) B 9) (qBD (w 6)) (as_ (qBi B) (qBP 15 17 (w 6) B 10) (qBD (w 7)) (as_ (qBi B) (qBP 15 17 (w 7) B 11) (qBD (w 8)) (as_ (qBi B) (qQx B) (.int .u16 (.ofNat u)) (al ((qGn q 53).call 63 (qQw (w 8) u)) (qBi B) (.agg (bl C)) (al ((qGn q 52).call 123 qN2) (qJW B C) (.bool true) (ah (qAh []) (aq (Q (.tuple [.int .u64 (.ofNat (w 8)),.int .u16 (.ofNat u),.int .i64 (.ofNat 0)],qSf))))))))))))))):=vq (by kernel_rfl)
noncomputable def qBj (B:List Nat):ASt:=mkSt [(1,.cells (bl B) true)] 2
noncomputable def qJX (B C:List Nat):ASt:=upS (qBj B) [(2,.cells (bl C) true)] 7
noncomputable def qSg:ASt:=mkSt [] 7
theorem q17 (q:CallT) (w:Nat→Nat) (u:Nat) (B C:List Nat) (Q:AV×ASt→Prop) :
 Vq ((qN3 q).call 59 [.agg (bl B)] (mkSt [] 1)) (fun r=>Q (r.1,qG7 [] r.2)) (as_ (qBj B) (qJu 15 17 B) (qBD (w 1)) (as_ (qBj B) (qBP 15 17 (w 1) B 5) (qBD (w 2)) (as_ (qBj B) (qBP 15 17 (w 2) B 6) (qBD (w 3)) (as_ (qBj B) (qBP 15 17 (w 3) B 7) (qBD (w 4)) (as_ (qBj B) (qBP 15 17 (w 4) B 8) (qBD (w 5)) (as_ (qBj B) (qBP 15 17 (w 5) B 9) (qBD (w 6)) (as_ (qBj B) (qBP 15 17 (w 6) B 10) (qBD (w 7)) (as_ (qBj B) (qBP 15 17 (w 7) B 11) (qBD (w 8)) (as_ (qBj B) (qQx B) (.int .u16 (.ofNat u)) (al ((qGn q 53).call 63 (qQw (w 8) u)) (qBj B) (.agg (bl C)) (al ((qGn q 52).call 123 qN2) (qJX B C) (.bool false) (ah (qAh []) (aq (Q (.tuple [.int .u64 (.ofNat 0),.int .u16 (.ofNat 0),.int .i64 (.ofNat 4)],qSg))))))))))))))):=vq (by kernel_rfl)
end Go.Proofs.YtiafochainjglaaGreatDoor.cd3
end
section
open Go Go.Ax Go.Proofs
namespace Go.Proofs.YtiafochainjglaaGreatDoor.cd3
open cd
set_option linter.unusedVariables false
theorem qYd:Env.Ok Tryz.prog EF:=envEx_ok (xs:=[]) ⟨⟨Tryz.func57,Tryz.call57⟩,⟨Tryz.func59,Tryz.call59⟩,⟨Tryz.func71,Tryz.call71⟩,⟨Tryz.func72,Tryz.call72⟩,⟨Tryz.func133,Tryz.call133⟩,trivial⟩ trivial (by kernel_rfl)
theorem qGy {m:Nat} (h:m<18446744073709551616):qAH .u64 (.ofNat m)=.ofNat m:=by
 have e:qB5 (.ofNat m) (big .u64)=m:=Nat.mod_eq_of_lt h;unfold qAH;have hb:Nat.blt (qB5 (.ofNat m) (big .u64)) (half .u64)=true:=by rw[e];exact qFa h
 show (bif Nat.blt (qB5 (.ofNat m) (big .u64)) (half .u64) then Int.ofNat (qB5 (.ofNat m) (big .u64)) else _)=_;rw[hb,e];rfl
theorem or0 {b:Nat} (hb:b<256):qAH .u64 (.ofNat (Nat.lor 0 (qB5 (qAH .u64 (.ofNat b)) 18446744073709551616)))=.ofNat b:=by
 rw[qGy (m:=b) (by omega)];have e4:qB5 (.ofNat b) 18446744073709551616=b:=Nat.mod_eq_of_lt (by omega);rw[e4,show Nat.lor 0 b=b from Nat.zero_or b];exact qGy (by omega)
theorem or1 {n b:Nat} (hn:n<72057594037927936) (hb:b<256):qAH .u64 (.ofNat (Nat.lor (qB5 (qDO .u64 (.ofNat n) 8) 18446744073709551616) (qB5 (qAH .u64 (.ofNat b)) 18446744073709551616)))=.ofNat (n*256+b):=by
 have e1:qDO .u64 (.ofNat n) 8=.ofNat (n*256):=by
  have e0:qDO .u64 (.ofNat n) 8=qAH .u64 (.ofNat (n*2 ^ 8)):=rfl;rw[e0,show n*2 ^ 8=n*256 by omega];exact qGy (by omega)
 rw[e1,qGy (m:=b) (by omega)];have e3:qB5 (.ofNat (n*256)) 18446744073709551616=n*256:=Nat.mod_eq_of_lt (by omega);have e4:qB5 (.ofNat b) 18446744073709551616=b:=Nat.mod_eq_of_lt (by omega);rw[e3,e4];have e5:Nat.lor (n*256) b=n*256+b:=by
  have:=Nat.two_pow_add_eq_or_of_lt (i:=8) (show b<2 ^ 8 from hb) n;rw[show (2 ^ 8*n:Nat)=n*256 by omega] at this;exact this.symm
 rw[e5];exact qGy (by omega)
theorem ad0 {b:Nat} (hb:b<256):qAH .u64 (.ofNat 0+qAH .u64 (.ofNat b))=.ofNat b:=by
 rw[qGy (m:=b) (by omega)];have:(Int.ofNat 0+Int.ofNat b:Int)=Int.ofNat (0+b):=rfl;rw[this,Nat.zero_add];exact qGy (by omega)
theorem ad1 {n b:Nat} (hn:n<72057594037927936) (hb:b<256):qAH .u64 (qAH .u64 (.ofNat n * .ofNat 256)+qAH .u64 (.ofNat b))=.ofNat (n*256+b):=by
 have e:(Int.ofNat n*Int.ofNat 256:Int)=Int.ofNat (n*256):=rfl;have ad:(Int.ofNat (n*256)+Int.ofNat b:Int)=Int.ofNat (n*256+b):=rfl;rw[e,qGy (m:=n*256) (by omega),qGy (m:=b) (by omega),ad];exact qGy (by omega)
def pn (B:List Nat) (o:Nat):Nat→Nat
 | 0=>0
 | k+1=>pn B o k*256+B.getD (o+k) 0
theorem qI2 {B:List Nat} (h:∀i,B.getD i 0<256) (o:Nat):∀k,pn B o k<256 ^ k
 | 0=>by show 0<1;decide
 | k+1=>by
  have ih:=qI2 h o k;have:=h (o+k);show pn B o k*256+B.getD (o+k) 0<256 ^ k*256;omega
section
variable {S:ASt} {x y:Operand}
theorem q0t {b:Nat} (hb:b<256):still S (qAD EF .or 24 x y (.int .u64 (.ofNat 0)) (.int .u64 (qAH .u64 (.ofNat b))))=some (.int .u64 (.ofNat (0*256+b)),S):=by
 have e:qAD EF .or 24 x y (.int .u64 (.ofNat 0)) (.int .u64 (qAH .u64 (.ofNat b)))=some (.int .u64 (qAH .u64 (.ofNat (Nat.lor 0 (qB5 (qAH .u64 (.ofNat b)) 18446744073709551616))))):=by kernel_rfl
 rw[or0 hb] at e;rw[Nat.zero_mul,Nat.zero_add];exact qAF e
theorem orF1 {n b:Nat} (hn:n<72057594037927936) (hb:b<256):still S (qAD EF .or 24 x y (.int .u64 (qDO .u64 (.ofNat n) 8)) (.int .u64 (qAH .u64 (.ofNat b))))=some (.int .u64 (.ofNat (n*256+b)),S):=by
 have e:qAD EF .or 24 x y (.int .u64 (qDO .u64 (.ofNat n) 8)) (.int .u64 (qAH .u64 (.ofNat b)))=some (.int .u64 (qAH .u64 (.ofNat (Nat.lor (qB5 (qDO .u64 (.ofNat n) 8) 18446744073709551616) (qB5 (qAH .u64 (.ofNat b)) 18446744073709551616))))):=by kernel_rfl
 rw[or1 hn hb] at e;exact qAF e
end
def blV (b:List Nat):List Nat:=(List.range 256).map fun i=>b.getD i 0
theorem qY9 (b:List Nat):bl b=(blV b).map qAn:=by unfold bl blV;rw[List.map_map];rfl
theorem qIS (b:List Nat):(blV b).length=256:=by simp[blV]
theorem qTy {b:List Nat} (h:b.length=256):blV b=b:=by
 unfold blV;apply List.ext_getElem
 ·simp[h]
 ·intro i h1 h2;simp at h1 h2;simp[List.getD_eq_getElem?_getD,h2]
theorem qVQ:∀(xs ys:List Nat),xs.length=ys.length→qLL (fun _ x y=>qMb (.int .u8) x y) 5 xs.length (xs.map qAn) (ys.map qAn)=some (decide (xs=ys))
 | [],[],_=>rfl
 | [],_::_,h=>by simp at h
 | _::_,[],h=>by simp at h
 | x::xs,y::ys,h=>by
  have ih:=qVQ xs ys (by simpa using h);show (match (some (eqF (.ofNat x) (.ofNat y)):Option Bool) with | some true=>qLL (fun _ x y=>qMb (.int .u8) x y) 5 xs.length (xs.map qAn) (ys.map qAn) | some false=>some false | none=>none)=_;rw[ih,qCG]
  by_cases e:x=y
  ·subst e;simp
  ·have:(Int.ofNat x == Int.ofNat y)=false:=by
    simp only[Int.ofNat_eq_natCast,beq_eq_false_iff_ne,ne_eq];omega
   rw[this];simp[e]
def EqB:Prop:=∀(S:ASt) (i j:Nat) (a b:List Nat),(∀i,a.getD i 0<256)→(∀i,b.getD i 0<256)→S.h.get i=some (.cells (bl a) true)→S.h.get j=some (.cells (bl b) true) →
 qAE Tryz.prog 123 [.slice (some (i,0)) 256 (.known 256),.slice (some (j,0)) 256 (.known 256)] S (.bool (decide (blV a=blV b)),S)
theorem qXL {l:List Nat} (h:∀x,x∈l→x<256) (i:Nat):l.getD i 0<256:=by
 rw[List.getD_eq_getElem?_getD];cases e:l[i]? with
 | none=>decide
 | some x=>exact h x (List.mem_of_getElem? e)
section
variable {q:CallT} {H:List Nat→Nat→Nat}
theorem qEx (hS:Sums q H) {l:List Nat} (h:∀x,x∈l→x<256) (i:Nat):(qAm H l).getD i 0<256 :=
 qXL (qEK (qGt h) (fun x hx=>by
  unfold qIu at hx;simp only[List.mem_cons,List.not_mem_nil,or_false] at hx;rcases hx with rfl | rfl | rfl | rfl | rfl | rfl | rfl | rfl<;>exact hS.lt _ _)) i
theorem p7 {B:List Nat} (h:∀i,B.getD i 0<256) (o k:Nat) (hk:k≤7):pn B o k<72057594037927936 :=
 Nat.lt_of_lt_of_le (qI2 h o k) (Nat.pow_le_pow_right (n:=256) (by decide) hk)
theorem p8 {B:List Nat} (h:∀i,B.getD i 0<256) (o:Nat):pn B o 8<18446744073709551616:=qI2 h o 8
theorem orS {S:ASt} {x y:Operand} {a b:Nat} (ha:a<256) (hb:b<256):still S (qAD EF .or 34 x y (.int .u16 (qDO .u16 (qAH .u16 (.ofNat a)) 8)) (.int .u16 (qAH .u16 (.ofNat b))))=some (.int .u16 (.ofNat (a*256+b)),S):=by
 have e:qAD EF .or 34 x y (.int .u16 (qDO .u16 (qAH .u16 (.ofNat a)) 8)) (.int .u16 (qAH .u16 (.ofNat b)))=some (.int .u16 (qAH .u16 (.ofNat (Nat.lor (qB5 (qDO .u16 (qAH .u16 (.ofNat a)) 8) 65536) (qB5 (qAH .u16 (.ofNat b)) 65536))))):=by kernel_rfl
 have e0:qDO .u16 (.ofNat a) 8=.ofNat (a*256):=by
  have e0:qDO .u16 (.ofNat a) 8=qAH .u16 (.ofNat (a*2 ^ 8)):=rfl;rw[e0,show a*2 ^ 8=a*256 by omega];exact w16 (by omega)
 have e3:qB5 (.ofNat (a*256)) 65536=a*256:=Nat.mod_eq_of_lt (by omega);have e4:qB5 (.ofNat b) 65536=b:=Nat.mod_eq_of_lt (by omega);have e5:Nat.lor (a*256) b=a*256+b:=by
  have:=Nat.two_pow_add_eq_or_of_lt (i:=8) (show b<2 ^ 8 from hb) a;rw[show (2 ^ 8*a:Nat)=a*256 by omega] at this;exact this.symm
 rw[w16 (n:=a) (by omega),w16 (n:=b) (by omega),e0,e3,e4,e5,w16 (by omega)] at e;rw[w16 (n:=a) (by omega),w16 (n:=b) (by omega),e0];exact qAF e
def qOP (H:List Nat→Nat→Nat) (B:List Nat):Prop:=blV (qAm H (qFh (pn B 4 8)))=blV B
def qKn (B:List Nat):Nat:=B.getD 12 0*256+B.getD 13 0
def qOQ (H:List Nat→Nat→Nat) (B:List Nat):Prop:=blV (qAm H (qFB (pn B 4 8) (qKn B)))=blV B
theorem qQb {B:List Nat} (hB:∀i,B.getD i 0<256):qKn B<65536:=by
 have:=hB 12;have:=hB 13;unfold qKn;omega
theorem qQQ (hS:Sums q H) (hE:EqB) {B:List Nat} (hB:∀i,B.getD i 0<256) (S:ASt) [Decidable (qOP H B)] :
  qAE Tryz.prog 57 [.agg (bl B)] S (.tuple (if qOP H B then [.int .u64 (.ofNat (pn B 4 8)),.int .i64 (.ofNat 0)] else [.int .u64 (.ofNat 0),.int .i64 (.ofNat 4)]),S):=by
 obtain⟨C,hC⟩:∃C,C=qAm H (qFh (pn B 4 8)):=⟨_,rfl⟩;have ops:∀{S:ASt} {x y:Operand} (k:Nat),k≤6→still S (qAD EF .or 24 x y (.int .u64 (qDO .u64 (.ofNat (pn B 4 (k+1))) 8)) (.int .u64 (qAH .u64 (.ofNat (B.getD (4+(k+1)) 0)))))=some (.int .u64 (.ofNat (pn B 4 (k+2))),S):=fun k hk=>orF1 (p7 hB 4 (k+1) (by omega)) (hB _)
 by_cases h:qOP H B
 ·rw[if_pos h];have hd:decide (blV C=blV B)=true:=by rw[hC];exact decide_eq_true h
  have hA:qAf Tryz.prog 57 [.agg (bl B)] (mkSt [] 1) (.tuple [.int .u64 (.ofNat (pn B 4 8)),.int .i64 (.ofNat 0)]):=by
   refine qAf.of_tm qYd (sum:=qA0 [62,63,97,98,123] (qIZ [(62,[.int .u64 (.ofNat (pn B 4 8))],qBv B,(.agg (bl C),qBv B)),(123,[.slice (some (2,0)) 256 (.known 256),.slice (some (1,0)) 256 (.known 256)],qJU B C,(.bool true,qJU B C))])) (qAG (qDB fun w hw=>by
    simp only[List.mem_cons,List.not_mem_nil,or_false] at hw;rcases hw with rfl | rfl
    ·rw[hC];exact qYb hS (p8 hB 4) _
    ·rw[←hd];exact hE _ 2 1 C B (by rw[hC];exact qEx hS (qHj _)) hB (by kernel_rfl) (by kernel_rfl))) (Eq.mp (q14 _ (pn B 4) 0 B C (fun r=>r.1=.tuple [.int .u64 (.ofNat (pn B 4 8)),.int .i64 (.ofNat 0)])) ⟨q0t (hB _),ops 0 (by omega),ops 1 (by omega),ops 2 (by omega),ops 3 (by omega),ops 4 (by omega),ops 5 (by omega),ops 6 (by omega),ca (qCB ..),ca (by rw[qEv rfl];exact qCB ..),trivial,rfl⟩)
  exact qAE.pureN hA (by simp[qAP]) (fun a ha=>by
   simp only[List.mem_cons,List.not_mem_nil,or_false] at ha;subst ha;exact blP B)
 ·rw[if_neg h];have hd:decide (blV C=blV B)=false:=by rw[hC];exact decide_eq_false h
  have hA:qAf Tryz.prog 57 [.agg (bl B)] (mkSt [] 1) (.tuple [.int .u64 (.ofNat 0),.int .i64 (.ofNat 4)]):=by
   refine qAf.of_tm qYd (sum:=qA0 [62,63,97,98,123] (qIZ [(62,[.int .u64 (.ofNat (pn B 4 8))],qBw B,(.agg (bl C),qBw B)),(123,[.slice (some (2,0)) 256 (.known 256),.slice (some (1,0)) 256 (.known 256)],qJV B C,(.bool false,qJV B C))])) (qAG (qDB fun w hw=>by
    simp only[List.mem_cons,List.not_mem_nil,or_false] at hw;rcases hw with rfl | rfl
    ·rw[hC];exact qYb hS (p8 hB 4) _
    ·rw[←hd];exact hE _ 2 1 C B (by rw[hC];exact qEx hS (qHj _)) hB (by kernel_rfl) (by kernel_rfl))) (Eq.mp (q15 _ (pn B 4) 0 B C (fun r=>r.1=.tuple [.int .u64 (.ofNat 0),.int .i64 (.ofNat 4)])) ⟨q0t (hB _),ops 0 (by omega),ops 1 (by omega),ops 2 (by omega),ops 3 (by omega),ops 4 (by omega),ops 5 (by omega),ops 6 (by omega),ca (qCB ..),ca (by rw[qEv rfl];exact qCB ..),trivial,rfl⟩)
  exact qAE.pureN hA (by simp[qAP]) (fun a ha=>by
   simp only[List.mem_cons,List.not_mem_nil,or_false] at ha;subst ha;exact blP B)
theorem qQR (hS:Sums q H) (hE:EqB) {B:List Nat} (hB:∀i,B.getD i 0<256) (S:ASt) [Decidable (qOQ H B)] :
  qAE Tryz.prog 59 [.agg (bl B)] S (.tuple (if qOQ H B then [.int .u64 (.ofNat (pn B 4 8)),.int .u16 (.ofNat (qKn B)),.int .i64 (.ofNat 0)] else [.int .u64 (.ofNat 0),.int .u16 (.ofNat 0),.int .i64 (.ofNat 4)]),S):=by
 obtain⟨C,hC⟩:∃C,C=qAm H (qFB (pn B 4 8) (qKn B)):=⟨_,rfl⟩;have ops:∀{S:ASt} {x y:Operand} (k:Nat),k≤6→still S (qAD EF .or 24 x y (.int .u64 (qDO .u64 (.ofNat (pn B 4 (k+1))) 8)) (.int .u64 (qAH .u64 (.ofNat (B.getD (4+(k+1)) 0)))))=some (.int .u64 (.ofNat (pn B 4 (k+2))),S):=fun k hk=>orF1 (p7 hB 4 (k+1) (by omega)) (hB _)
 by_cases h:qOQ H B
 ·rw[if_pos h];have hd:decide (blV C=blV B)=true:=by rw[hC];exact decide_eq_true h
  have hA:qAf Tryz.prog 59 [.agg (bl B)] (mkSt [] 1) (.tuple [.int .u64 (.ofNat (pn B 4 8)),.int .u16 (.ofNat (qKn B)),.int .i64 (.ofNat 0)]):=by
   refine qAf.of_tm qYd (sum:=qA0 [62,63,97,98,123] (qIZ [(63,[.int .u64 (.ofNat (pn B 4 8)),.int .u16 (.ofNat (qKn B))],qBi B,(.agg (bl C),qBi B)),(123,[.slice (some (2,0)) 256 (.known 256),.slice (some (1,0)) 256 (.known 256)],qJW B C,(.bool true,qJW B C))])) (qAG (qDB fun w hw=>by
    simp only[List.mem_cons,List.not_mem_nil,or_false] at hw;rcases hw with rfl | rfl
    ·rw[hC];exact atLB hS (p8 hB 4) (qQb hB) _
    ·rw[←hd];exact hE _ 2 1 C B (by rw[hC];exact qEx hS (qJq _ _)) hB (by kernel_rfl) (by kernel_rfl))) (Eq.mp (q16 _ (pn B 4) (qKn B) B C (fun r=>r.1=.tuple [.int .u64 (.ofNat (pn B 4 8)),.int .u16 (.ofNat (qKn B)),.int .i64 (.ofNat 0)])) ⟨q0t (hB _),ops 0 (by omega),ops 1 (by omega),ops 2 (by omega),ops 3 (by omega),ops 4 (by omega),ops 5 (by omega),ops 6 (by omega),orS (hB _) (hB _),ca (qCB ..),ca (by rw[qEv rfl];exact qCB ..),trivial,rfl⟩)
  exact qAE.pureN hA (by simp[qAP]) (fun a ha=>by
   simp only[List.mem_cons,List.not_mem_nil,or_false] at ha;subst ha;exact blP B)
 ·rw[if_neg h];have hd:decide (blV C=blV B)=false:=by rw[hC];exact decide_eq_false h
  have hA:qAf Tryz.prog 59 [.agg (bl B)] (mkSt [] 1) (.tuple [.int .u64 (.ofNat 0),.int .u16 (.ofNat 0),.int .i64 (.ofNat 4)]):=by
   refine qAf.of_tm qYd (sum:=qA0 [62,63,97,98,123] (qIZ [(63,[.int .u64 (.ofNat (pn B 4 8)),.int .u16 (.ofNat (qKn B))],qBj B,(.agg (bl C),qBj B)),(123,[.slice (some (2,0)) 256 (.known 256),.slice (some (1,0)) 256 (.known 256)],qJX B C,(.bool false,qJX B C))])) (qAG (qDB fun w hw=>by
    simp only[List.mem_cons,List.not_mem_nil,or_false] at hw;rcases hw with rfl | rfl
    ·rw[hC];exact atLB hS (p8 hB 4) (qQb hB) _
    ·rw[←hd];exact hE _ 2 1 C B (by rw[hC];exact qEx hS (qJq _ _)) hB (by kernel_rfl) (by kernel_rfl))) (Eq.mp (q17 _ (pn B 4) (qKn B) B C (fun r=>r.1=.tuple [.int .u64 (.ofNat 0),.int .u16 (.ofNat 0),.int .i64 (.ofNat 4)])) ⟨q0t (hB _),ops 0 (by omega),ops 1 (by omega),ops 2 (by omega),ops 3 (by omega),ops 4 (by omega),ops 5 (by omega),ops 6 (by omega),orS (hB _) (hB _),ca (qCB ..),ca (by rw[qEv rfl];exact qCB ..),trivial,rfl⟩)
  exact qAE.pureN hA (by simp[qAP]) (fun a ha=>by
   simp only[List.mem_cons,List.not_mem_nil,or_false] at ha;subst ha;exact blP B)
end
noncomputable def EE:Env:=envEx Tryz.prog [0,3,4,5,9,176] [(123,Tryz.f123)] []
theorem EEok:Env.Ok Tryz.prog EE:=envEx_ok (xs:=[]) ⟨⟨Tryz.func123,Tryz.call123⟩,trivial⟩ trivial (by kernel_rfl)
theorem vcE (v w:AV) (a b:List Nat) (e:Bool) (S:ASt) (Q:AV×ASt→Prop) :
 Vq ((TM EE qAa [(123,⟨[6,8,9],[],[],[]⟩)] fl0 60).call 123 [v,w] S) Q (al (qA5 EE 176 9 v) S (.str a) (al (qA5 EE 176 9 w) S (.str b) (as_ S (qAD EE .eql 9 (.tmp 6) (.tmp 8) (.str a) (.str b)) (.bool e) (aq (Q (.bool e,S)))))):=vq (by kernel_rfl)
theorem qNs:∀{l:List Nat},(∀x,x∈l→x<256)→qEo (l.map qAn)=some l
 | [],_=>rfl
 | x::t,h=>by
  show (match qEo (t.map qAn) with | some l=>some (x % 256::l) | none=>none)=_;rw[qNs fun y hy=>h y (List.mem_cons_of_mem _ hy)];simp only[Nat.mod_eq_of_lt (h x List.mem_cons_self)]
theorem qRj {b:List Nat} (h:∀i,b.getD i 0<256):∀x,x∈blV b→x<256:=fun x hx=>by
 unfold blV at hx;obtain⟨i,_,rfl⟩:=List.mem_map.1 hx;exact h i
theorem q07 {S:ASt} {i:Nat} {b:List Nat} {rw:Bool} (hb:∀i,b.getD i 0<256) (h:S.h.get i=some (.cells (bl b) rw)):qA5 EE 176 9 (.slice (some (i,0)) 256 (.known 256)) S=some (.str (blV b),S):=by
 have e:qA5 EE 176 9 (.slice (some (i,0)) 256 (.known 256)) S=(match S.h.get i with
  | some (.cells cs _)=>match qAy cs 0 256 with | some l=>(match qEo l with | some b=>some (.str b,S) | none=>none) | none=>none
  | _=>none):=by kernel_rfl
 rw[e];simp only[h,qBx];rw[qY9,qNs (qRj hb)]
theorem qLM:EqB:=fun S i j a b ha hb h1 h2 =>
 qAE.of_tm EEok qAB (Eq.mp (vcE (.slice (some (i,0)) 256 (.known 256)) (.slice (some (j,0)) 256 (.known 256)) (blV a) (blV b) (decide (blV a=blV b)) S (fun r=>r=(.bool (decide (blV a=blV b)),S))) ⟨q07 ha h1,q07 hb h2,by
  have e:qAD EE BinOp.eql 9 (Operand.tmp 6) (Operand.tmp 8) (AV.str (blV a)) (AV.str (blV b))=some (.bool (lEq (blV a) (blV b))):=by kernel_rfl
  rw[qKr] at e;refine qAF ?_;rw[e]
  congr 2
  by_cases h:blV a=blV b
  ·rw[h];simp
  ·simp[h],rfl⟩)
end Go.Proofs.YtiafochainjglaaGreatDoor.cd3
end
section
open Go Go.Ax Go.Proofs
namespace Go.Proofs.YtiafochainjglaaGreatDoor.cd4
set_option linter.unusedVariables false
noncomputable def fnsG:List (Nat×Func):=[(169,Tryz.f169),(199,Tryz.f199),(69,Tryz.f69),(133,Tryz.f133)]
noncomputable def EG:Env:=envEx Tryz.prog [0,3,4,5,23,24,25,27,29,37,54,75,111,176,197,253,254] fnsG []
def fl0:Fl:=⟨[],[],[],[]⟩
noncomputable def flG:List (Nat×Fl):=[(169,⟨[13,17,41,49],[12,16,36],[],[]⟩),(199,⟨[21],[],[],[]⟩),(69,⟨[7,10,26,30,32],[12,15,17,19,21],[],[]⟩),(133,⟨[18],[],[],[]⟩)]
noncomputable abbrev qMN (a:CallT):=TM EG (qA0 [48,60,95,123] a) flG fl0 60
noncomputable abbrev qKt:List AV:=[.int .i64 (.ofNat 0),.bool false,.int .u64 (.ofNat 0),.int .u64 (.ofNat 0),.int .u64 (.ofNat 0),.int .u64 (.ofNat 0),.int .u64 (.ofNat 0)]
noncomputable abbrev qBc (a:Nat):List AV:=[.int .i64 (.ofNat a)]
noncomputable def qJM (B:List Nat):ASt:=mkSt [(1,.cells (bl B) true),(2,.cells qKt true),(3,.cells (qBc 4) true)] 4
noncomputable def qLa (B:List Nat):ASt:=upS (qJM B) [(3,.cells (qBc 5) true)] 4
noncomputable abbrev qMQ (a:Nat→Nat→Nat):List AV:=[.int .i64 (.ofNat (a 4 1)),.bool false,.int .u64 (.ofNat 0),.int .u64 (.ofNat 0),.int .u64 (.ofNat 0),.int .u64 (.ofNat 0),.int .u64 (.ofNat 0)]
noncomputable def qL9 (w:Nat→Nat→Nat) (B:List Nat):ASt:=upS (qLa B) [(2,.cells (qMQ w) true)] 4
noncomputable def qL8 (w:Nat→Nat→Nat) (B:List Nat):ASt:=upS (qL9 w B) [(3,.cells (qBc 6) true)] 4
noncomputable abbrev qMP (a:Nat→Nat→Nat) (b:Bool):List AV:=[.int .i64 (.ofNat (a 4 1)),.bool b,.int .u64 (.ofNat 0),.int .u64 (.ofNat 0),.int .u64 (.ofNat 0),.int .u64 (.ofNat 0),.int .u64 (.ofNat 0)]
noncomputable def qEX (w:Nat→Nat→Nat) (c:Bool) (B:List Nat):ASt:=upS (qL8 w B) [(2,.cells (qMP w c) true)] 4
noncomputable abbrev qQt (a:Nat→Nat→Nat) (b:Bool):List AV:=[.int .i64 (.ofNat (a 4 1)),.bool b,.int .u64 (.ofNat 0),.int .u64 (.ofNat 0),.int .u64 (.ofNat 0),.int .u64 (.ofNat 0),.int .u64 (.ofNat (a 6 8))]
noncomputable def qEW (w:Nat→Nat→Nat) (c:Bool) (B:List Nat):ASt:=upS (qJM B) [(2,.cells (qQt w c) true),(3,.cells (qBc 14) true)] 4
noncomputable abbrev qMR (a:Nat→Nat→Nat) (b:Bool):List AV:=[.int .i64 (.ofNat (a 4 1)),.bool b,.int .u64 (.ofNat (a 14 8)),.int .u64 (.ofNat 0),.int .u64 (.ofNat 0),.int .u64 (.ofNat 0),.int .u64 (.ofNat (a 6 8))]
noncomputable def qEV (w:Nat→Nat→Nat) (c:Bool) (B:List Nat):ASt:=upS (qJM B) [(2,.cells (qMR w c) true),(3,.cells (qBc 22) true)] 4
noncomputable abbrev qMS (a:Nat→Nat→Nat) (b:Bool):List AV:=[.int .i64 (.ofNat (a 4 1)),.bool b,.int .u64 (.ofNat (a 14 8)),.int .u64 (.ofNat (a 22 8)),.int .u64 (.ofNat 0),.int .u64 (.ofNat 0),.int .u64 (.ofNat (a 6 8))]
noncomputable def qEU (w:Nat→Nat→Nat) (c:Bool) (B:List Nat):ASt:=upS (qLa B) [(2,.cells (qMS w c) true),(3,.cells (qBc 30) true)] 4
noncomputable abbrev qMT (a:Nat→Nat→Nat) (b:Bool):List AV:=[.int .i64 (.ofNat (a 4 1)),.bool b,.int .u64 (.ofNat (a 14 8)),.int .u64 (.ofNat (a 22 8)),.int .u64 (.ofNat (a 30 8)),.int .u64 (.ofNat 0),.int .u64 (.ofNat (a 6 8))]
noncomputable def qET (w:Nat→Nat→Nat) (c:Bool) (B:List Nat):ASt:=upS (qL9 w B) [(2,.cells (qMT w c) true),(3,.cells (qBc 38) true)] 4
noncomputable abbrev qHz (a:Nat→Nat→Nat) (b:Bool):List AV:=[.int .i64 (.ofNat (a 4 1)),.bool b,.int .u64 (.ofNat (a 14 8)),.int .u64 (.ofNat (a 22 8)),.int .u64 (.ofNat (a 30 8)),.int .u64 (.ofNat (a 38 8)),.int .u64 (.ofNat (a 6 8))]
noncomputable def qJK (w:Nat→Nat→Nat) (c:Bool) (B:List Nat):ASt:=upS (qL8 w B) [(2,.cells (qHz w c) true),(3,.cells (qBc 46) true)] 4
noncomputable def qJL (w:Nat→Nat→Nat) (c:Bool) (B C:List Nat):ASt:=upS (qJK w c B) [(4,.cells (bl C) true)] 13
noncomputable def qS4:ASt:=mkSt [] 13
noncomputable abbrev qQu (a:List Nat) (b:Nat):=Int.ofNat (List.getD a b 0)
noncomputable abbrev qAO (a:Nat→Nat→Nat) (b c:Nat) (d:List Nat) (e:Nat):=qAD EG BinOp.or 24 (Operand.tmp 18) (Operand.tmp 20) (AV.int .u64 (qDO .u64 (.ofNat (a b c)) 8)) (AV.int .u64 (qAH .u64 (qQu d e)))
noncomputable abbrev qAK (a:Nat→Nat→Nat) (b c:Nat):=AV.int .u64 (.ofNat (a b c))
noncomputable abbrev qBu (a:List Nat) (b:Nat):=qAD EG BinOp.or 24 (Operand.tmp 18) (Operand.tmp 20) (AV.int .u64 (.ofNat 0)) (AV.int .u64 (qAH .u64 (qQu a b)))
noncomputable abbrev qIA (a:CallT) (b:Nat):=M EG (drawA EG) (qA0 [48,60,95,123] a) b
noncomputable abbrev qMO (a:Nat→Nat→Nat):=qAD EG BinOp.eql 24 (Operand.tmp 16) (Operand.const (Value.int .u64 1)) (qAK a 5 1) (AV.int .u64 (.ofNat 1))
noncomputable abbrev qMM (a:Nat→Nat→Nat):=AV.int .i64 (.ofNat (a 4 1))
theorem vcSt (q:CallT) (w:Nat→Nat→Nat) (c:Bool) (B C:List Nat) (Q:AV×ASt→Prop) :
 Vq ((qMN q).call 169 [.agg (bl B)] (mkSt [] 1)) (fun r=>Q (r.1,qG7 [] r.2)) (as_ (qJM B) (qBu B 4) (qAK w 4 1) (al (qA5 EG 24 23 (qAK w 4 1)) (qLa B) (qMM w) (as_ (qL9 w B) (qBu B 5) (qAK w 5 1) (as_ (qL8 w B) (qMO w) (.bool c) (as_ (qEX w c B) (qBu B 6) (qAK w 6 1) (as_ (qEX w c B) (qAO w 6 1 B 7) (qAK w 6 2) (as_ (qEX w c B) (qAO w 6 2 B 8) (qAK w 6 3) (as_ (qEX w c B) (qAO w 6 3 B 9) (qAK w 6 4) (as_ (qEX w c B) (qAO w 6 4 B 10) (qAK w 6 5) (as_ (qEX w c B) (qAO w 6 5 B 11) (qAK w 6 6) (as_ (qEX w c B) (qAO w 6 6 B 12) (qAK w 6 7) (as_ (qEX w c B) (qAO w 6 7 B 13) (qAK w 6 8) (as_ (qEW w c B) (qBu B 14) (qAK w 14 1) (as_ (qEW w c B) (qAO w 14 1 B 15) (qAK w 14 2) (as_ (qEW w c B) (qAO w 14 2 B 16) (qAK w 14 3) (as_ (qEW w c B) (qAO w 14 3 B 17) (qAK w 14 4) (as_ (qEW w c B) (qAO w 14 4 B 18) (qAK w 14 5) (as_ (qEW w c B) (qAO w 14 5 B 19) (qAK w 14 6) (as_ (qEW w c B) (qAO w 14 6 B 20) (qAK w 14 7) (as_ (qEW w c B) (qAO w 14 7 B 21) (qAK w 14 8) (as_ (qEV w c B) (qBu B 22) (qAK w 22 1) (as_ (qEV w c B) (qAO w 22 1 B 23) (qAK w 22 2) (as_ (qEV w c B) (qAO w 22 2 B 24) (qAK w 22 3) (as_ (qEV w c B) (qAO w 22 3 B 25) (qAK w 22 4) (as_ (qEV w c B) (qAO w 22 4 B 26) (qAK w 22 5) (as_ (qEV w c B) (qAO w 22 5 B 27) (qAK w 22 6) (as_ (qEV w c B) (qAO w 22 6 B 28) (qAK w 22 7) (as_ (qEV w c B) (qAO w 22 7 B 29) (qAK w 22 8) (as_ (qEU w c B) (qBu B 30) (qAK w 30 1) (as_ (qEU w c B) (qAO w 30 1 B 31) (qAK w 30 2) (as_ (qEU w c B) (qAO w 30 2 B 32) (qAK w 30 3) (as_ (qEU w c B) (qAO w 30 3 B 33) (qAK w 30 4) (as_ (qEU w c B) (qAO w 30 4 B 34) (qAK w 30 5) (as_ (qEU w c B) (qAO w 30 5 B 35) (qAK w 30 6) (as_ (qEU w c B) (qAO w 30 6 B 36) (qAK w 30 7) (as_ (qEU w c B) (qAO w 30 7 B 37) (qAK w 30 8) (as_ (qET w c B) (qBu B 38) (qAK w 38 1) (as_ (qET w c B) (qAO w 38 1 B 39) (qAK w 38 2) (as_ (qET w c B) (qAO w 38 2 B 40) (qAK w 38 3) (as_ (qET w c B) (qAO w 38 3 B 41) (qAK w 38 4) (as_ (qET w c B) (qAO w 38 4 B 42) (qAK w 38 5) (as_ (qET w c B) (qAO w 38 5 B 43) (qAK w 38 6) (as_ (qET w c B) (qAO w 38 6 B 44) (qAK w 38 7) (as_ (qET w c B) (qAO w 38 7 B 45) (qAK w 38 8) (al ((qIA q 51).call 60 [.agg (qHz w c)]) (qJK w c B) (.tuple [.agg (bl C),.int .i64 (.ofNat 0)]) (al ((qIA q 49).call 123 [.slice (some (4,0)) 256 (.known 256),.slice (some (1,0)) 256 (.known 256)]) (qJL w c B C) (.bool true) (ah (qAh []) (aq (Q (.tuple [.agg (qHz w c),.int .i64 (.ofNat 0)],qS4)))))))))))))))))))))))))))))))))))))))))))))))))):=vq (by kernel_rfl)
noncomputable def qJQ (B:List Nat):ASt:=mkSt [(1,.cells (bl B) true),(2,.cells qKt true),(3,.cells (qBc 4) true)] 4
noncomputable def qLh (B:List Nat):ASt:=upS (qJQ B) [(3,.cells (qBc 5) true)] 4
noncomputable def qLg (w:Nat→Nat→Nat) (B:List Nat):ASt:=upS (qLh B) [(2,.cells (qMQ w) true)] 4
noncomputable def qLf (w:Nat→Nat→Nat) (B:List Nat):ASt:=upS (qLg w B) [(3,.cells (qBc 6) true)] 4
noncomputable def qE7 (w:Nat→Nat→Nat) (c:Bool) (B:List Nat):ASt:=upS (qLf w B) [(2,.cells (qMP w c) true)] 4
noncomputable def qE6 (w:Nat→Nat→Nat) (c:Bool) (B:List Nat):ASt:=upS (qJQ B) [(2,.cells (qQt w c) true),(3,.cells (qBc 14) true)] 4
noncomputable def qE5 (w:Nat→Nat→Nat) (c:Bool) (B:List Nat):ASt:=upS (qJQ B) [(2,.cells (qMR w c) true),(3,.cells (qBc 22) true)] 4
noncomputable def qE4 (w:Nat→Nat→Nat) (c:Bool) (B:List Nat):ASt:=upS (qLh B) [(2,.cells (qMS w c) true),(3,.cells (qBc 30) true)] 4
noncomputable def qE3 (w:Nat→Nat→Nat) (c:Bool) (B:List Nat):ASt:=upS (qLg w B) [(2,.cells (qMT w c) true),(3,.cells (qBc 38) true)] 4
noncomputable def qJO (w:Nat→Nat→Nat) (c:Bool) (B:List Nat):ASt:=upS (qLf w B) [(2,.cells (qHz w c) true),(3,.cells (qBc 46) true)] 4
noncomputable def qJP (w:Nat→Nat→Nat) (c:Bool) (B C:List Nat):ASt:=upS (qJO w c B) [(4,.cells (bl C) true)] 13
noncomputable def qS6:ASt:=mkSt [] 13
theorem vcSf (q:CallT) (w:Nat→Nat→Nat) (c:Bool) (B C:List Nat) (Q:AV×ASt→Prop) :
 Vq ((qMN q).call 169 [.agg (bl B)] (mkSt [] 1)) (fun r=>Q (r.1,qG7 [] r.2)) (as_ (qJQ B) (qBu B 4) (qAK w 4 1) (al (qA5 EG 24 23 (qAK w 4 1)) (qLh B) (qMM w) (as_ (qLg w B) (qBu B 5) (qAK w 5 1) (as_ (qLf w B) (qMO w) (.bool c) (as_ (qE7 w c B) (qBu B 6) (qAK w 6 1) (as_ (qE7 w c B) (qAO w 6 1 B 7) (qAK w 6 2) (as_ (qE7 w c B) (qAO w 6 2 B 8) (qAK w 6 3) (as_ (qE7 w c B) (qAO w 6 3 B 9) (qAK w 6 4) (as_ (qE7 w c B) (qAO w 6 4 B 10) (qAK w 6 5) (as_ (qE7 w c B) (qAO w 6 5 B 11) (qAK w 6 6) (as_ (qE7 w c B) (qAO w 6 6 B 12) (qAK w 6 7) (as_ (qE7 w c B) (qAO w 6 7 B 13) (qAK w 6 8) (as_ (qE6 w c B) (qBu B 14) (qAK w 14 1) (as_ (qE6 w c B) (qAO w 14 1 B 15) (qAK w 14 2) (as_ (qE6 w c B) (qAO w 14 2 B 16) (qAK w 14 3) (as_ (qE6 w c B) (qAO w 14 3 B 17) (qAK w 14 4) (as_ (qE6 w c B) (qAO w 14 4 B 18) (qAK w 14 5) (as_ (qE6 w c B) (qAO w 14 5 B 19) (qAK w 14 6) (as_ (qE6 w c B) (qAO w 14 6 B 20) (qAK w 14 7) (as_ (qE6 w c B) (qAO w 14 7 B 21) (qAK w 14 8) (as_ (qE5 w c B) (qBu B 22) (qAK w 22 1) (as_ (qE5 w c B) (qAO w 22 1 B 23) (qAK w 22 2) (as_ (qE5 w c B) (qAO w 22 2 B 24) (qAK w 22 3) (as_ (qE5 w c B) (qAO w 22 3 B 25) (qAK w 22 4) (as_ (qE5 w c B) (qAO w 22 4 B 26) (qAK w 22 5) (as_ (qE5 w c B) (qAO w 22 5 B 27) (qAK w 22 6) (as_ (qE5 w c B) (qAO w 22 6 B 28) (qAK w 22 7) (as_ (qE5 w c B) (qAO w 22 7 B 29) (qAK w 22 8) (as_ (qE4 w c B) (qBu B 30) (qAK w 30 1) (as_ (qE4 w c B) (qAO w 30 1 B 31) (qAK w 30 2) (as_ (qE4 w c B) (qAO w 30 2 B 32) (qAK w 30 3) (as_ (qE4 w c B) (qAO w 30 3 B 33) (qAK w 30 4) (as_ (qE4 w c B) (qAO w 30 4 B 34) (qAK w 30 5) (as_ (qE4 w c B) (qAO w 30 5 B 35) (qAK w 30 6) (as_ (qE4 w c B) (qAO w 30 6 B 36) (qAK w 30 7) (as_ (qE4 w c B) (qAO w 30 7 B 37) (qAK w 30 8) (as_ (qE3 w c B) (qBu B 38) (qAK w 38 1) (as_ (qE3 w c B) (qAO w 38 1 B 39) (qAK w 38 2) (as_ (qE3 w c B) (qAO w 38 2 B 40) (qAK w 38 3) (as_ (qE3 w c B) (qAO w 38 3 B 41) (qAK w 38 4) (as_ (qE3 w c B) (qAO w 38 4 B 42) (qAK w 38 5) (as_ (qE3 w c B) (qAO w 38 5 B 43) (qAK w 38 6) (as_ (qE3 w c B) (qAO w 38 6 B 44) (qAK w 38 7) (as_ (qE3 w c B) (qAO w 38 7 B 45) (qAK w 38 8) (al ((qIA q 51).call 60 [.agg (qHz w c)]) (qJO w c B) (.tuple [.agg (bl C),.int .i64 (.ofNat 0)]) (al ((qIA q 49).call 123 [.slice (some (4,0)) 256 (.known 256),.slice (some (1,0)) 256 (.known 256)]) (qJP w c B C) (.bool false) (ah (qAh []) (aq (Q (.tuple [.agg qKt,.int .i64 (.ofNat 4)],qS6)))))))))))))))))))))))))))))))))))))))))))))))))):=vq (by kernel_rfl)
noncomputable def qJN (B:List Nat):ASt:=mkSt [(1,.cells (bl B) true),(2,.cells qKt true),(3,.cells (qBc 4) true)] 4
noncomputable def qLe (B:List Nat):ASt:=upS (qJN B) [(3,.cells (qBc 5) true)] 4
noncomputable def qLd (w:Nat→Nat→Nat) (B:List Nat):ASt:=upS (qLe B) [(2,.cells (qMQ w) true)] 4
noncomputable def qLc (w:Nat→Nat→Nat) (B:List Nat):ASt:=upS (qLd w B) [(3,.cells (qBc 6) true)] 4
noncomputable def qE2 (w:Nat→Nat→Nat) (c:Bool) (B:List Nat):ASt:=upS (qLc w B) [(2,.cells (qMP w c) true)] 4
noncomputable def qE1 (w:Nat→Nat→Nat) (c:Bool) (B:List Nat):ASt:=upS (qJN B) [(2,.cells (qQt w c) true),(3,.cells (qBc 14) true)] 4
noncomputable def qE0 (w:Nat→Nat→Nat) (c:Bool) (B:List Nat):ASt:=upS (qJN B) [(2,.cells (qMR w c) true),(3,.cells (qBc 22) true)] 4
noncomputable def qEZ (w:Nat→Nat→Nat) (c:Bool) (B:List Nat):ASt:=upS (qLe B) [(2,.cells (qMS w c) true),(3,.cells (qBc 30) true)] 4
noncomputable def qEY (w:Nat→Nat→Nat) (c:Bool) (B:List Nat):ASt:=upS (qLd w B) [(2,.cells (qMT w c) true),(3,.cells (qBc 38) true)] 4
noncomputable def qLb (w:Nat→Nat→Nat) (c:Bool) (B:List Nat):ASt:=upS (qLc w B) [(2,.cells (qHz w c) true),(3,.cells (qBc 46) true)] 4
noncomputable def qS5:ASt:=mkSt [] 13
theorem vcSn (q:CallT) (w:Nat→Nat→Nat) (c:Bool) (B C:List Nat) (Q:AV×ASt→Prop) :
 Vq ((qMN q).call 169 [.agg (bl B)] (mkSt [] 1)) (fun r=>Q (r.1,qG7 [] r.2)) (as_ (qJN B) (qBu B 4) (qAK w 4 1) (al (qA5 EG 24 23 (qAK w 4 1)) (qLe B) (qMM w) (as_ (qLd w B) (qBu B 5) (qAK w 5 1) (as_ (qLc w B) (qMO w) (.bool c) (as_ (qE2 w c B) (qBu B 6) (qAK w 6 1) (as_ (qE2 w c B) (qAO w 6 1 B 7) (qAK w 6 2) (as_ (qE2 w c B) (qAO w 6 2 B 8) (qAK w 6 3) (as_ (qE2 w c B) (qAO w 6 3 B 9) (qAK w 6 4) (as_ (qE2 w c B) (qAO w 6 4 B 10) (qAK w 6 5) (as_ (qE2 w c B) (qAO w 6 5 B 11) (qAK w 6 6) (as_ (qE2 w c B) (qAO w 6 6 B 12) (qAK w 6 7) (as_ (qE2 w c B) (qAO w 6 7 B 13) (qAK w 6 8) (as_ (qE1 w c B) (qBu B 14) (qAK w 14 1) (as_ (qE1 w c B) (qAO w 14 1 B 15) (qAK w 14 2) (as_ (qE1 w c B) (qAO w 14 2 B 16) (qAK w 14 3) (as_ (qE1 w c B) (qAO w 14 3 B 17) (qAK w 14 4) (as_ (qE1 w c B) (qAO w 14 4 B 18) (qAK w 14 5) (as_ (qE1 w c B) (qAO w 14 5 B 19) (qAK w 14 6) (as_ (qE1 w c B) (qAO w 14 6 B 20) (qAK w 14 7) (as_ (qE1 w c B) (qAO w 14 7 B 21) (qAK w 14 8) (as_ (qE0 w c B) (qBu B 22) (qAK w 22 1) (as_ (qE0 w c B) (qAO w 22 1 B 23) (qAK w 22 2) (as_ (qE0 w c B) (qAO w 22 2 B 24) (qAK w 22 3) (as_ (qE0 w c B) (qAO w 22 3 B 25) (qAK w 22 4) (as_ (qE0 w c B) (qAO w 22 4 B 26) (qAK w 22 5) (as_ (qE0 w c B) (qAO w 22 5 B 27) (qAK w 22 6) (as_ (qE0 w c B) (qAO w 22 6 B 28) (qAK w 22 7) (as_ (qE0 w c B) (qAO w 22 7 B 29) (qAK w 22 8) (as_ (qEZ w c B) (qBu B 30) (qAK w 30 1) (as_ (qEZ w c B) (qAO w 30 1 B 31) (qAK w 30 2) (as_ (qEZ w c B) (qAO w 30 2 B 32) (qAK w 30 3) (as_ (qEZ w c B) (qAO w 30 3 B 33) (qAK w 30 4) (as_ (qEZ w c B) (qAO w 30 4 B 34) (qAK w 30 5) (as_ (qEZ w c B) (qAO w 30 5 B 35) (qAK w 30 6) (as_ (qEZ w c B) (qAO w 30 6 B 36) (qAK w 30 7) (as_ (qEZ w c B) (qAO w 30 7 B 37) (qAK w 30 8) (as_ (qEY w c B) (qBu B 38) (qAK w 38 1) (as_ (qEY w c B) (qAO w 38 1 B 39) (qAK w 38 2) (as_ (qEY w c B) (qAO w 38 2 B 40) (qAK w 38 3) (as_ (qEY w c B) (qAO w 38 3 B 41) (qAK w 38 4) (as_ (qEY w c B) (qAO w 38 4 B 42) (qAK w 38 5) (as_ (qEY w c B) (qAO w 38 5 B 43) (qAK w 38 6) (as_ (qEY w c B) (qAO w 38 6 B 44) (qAK w 38 7) (as_ (qEY w c B) (qAO w 38 7 B 45) (qAK w 38 8) (al ((qIA q 51).call 60 [.agg (qHz w c)]) (qLb w c B) (.tuple [.agg (bl C),.int .i64 (.ofNat 2)]) (ah (qAh []) (aq (Q (.tuple [.agg qKt,.int .i64 (.ofNat 4)],qS5))))))))))))))))))))))))))))))))))))))))))))))))):=vq (by kernel_rfl)
end Go.Proofs.YtiafochainjglaaGreatDoor.cd4
end
section
open Go Go.Ax Go.Proofs
namespace Go.Proofs.YtiafochainjglaaGreatDoor.cd4
open cd cd3
set_option linter.unusedVariables false
theorem EGok:Env.Ok Tryz.prog EG:=envEx_ok (xs:=[]) ⟨⟨Tryz.func169,Tryz.call169⟩,⟨Tryz.func199,Tryz.call199⟩,⟨Tryz.func69,Tryz.call69⟩,⟨Tryz.func133,Tryz.call133⟩,trivial⟩ trivial (by kernel_rfl)
section
variable {S:ASt} {x y:Operand}
theorem orG0 {b:Nat} (hb:b<256):still S (qAD EG .or 24 x y (.int .u64 (.ofNat 0)) (.int .u64 (qAH .u64 (.ofNat b))))=some (.int .u64 (.ofNat (0*256+b)),S):=by
 have e:qAD EG .or 24 x y (.int .u64 (.ofNat 0)) (.int .u64 (qAH .u64 (.ofNat b)))=some (.int .u64 (qAH .u64 (.ofNat (Nat.lor 0 (qB5 (qAH .u64 (.ofNat b)) 18446744073709551616))))):=by kernel_rfl
 rw[or0 hb] at e;rw[Nat.zero_mul,Nat.zero_add];exact qAF e
theorem orG1 {n b:Nat} (hn:n<72057594037927936) (hb:b<256):still S (qAD EG .or 24 x y (.int .u64 (qDO .u64 (.ofNat n) 8)) (.int .u64 (qAH .u64 (.ofNat b))))=some (.int .u64 (.ofNat (n*256+b)),S):=by
 have e:qAD EG .or 24 x y (.int .u64 (qDO .u64 (.ofNat n) 8)) (.int .u64 (qAH .u64 (.ofNat b)))=some (.int .u64 (qAH .u64 (.ofNat (Nat.lor (qB5 (qDO .u64 (.ofNat n) 8) 18446744073709551616) (qB5 (qAH .u64 (.ofNat b)) 18446744073709551616))))):=by kernel_rfl
 rw[or1 hn hb] at e;exact qAF e
theorem cvG {b:Nat} (hb:b<256) (S:ASt):qA5 EG 24 23 (.int .u64 (.ofNat b)) S=some (.int .i64 (.ofNat b),S):=by
 have e:qA5 EG 24 23 (.int .u64 (.ofNat b)) S=some (.int .i64 (qAH .i64 (.ofNat b)),S):=by kernel_rfl
 rw[qBW (by omega)] at e;exact e
theorem eqG {a b:Int}:still S (qAD EG .eql 24 x y (.int .u64 a) (.int .u64 b))=some (.bool (a == b),S):=by
 have e:qAD EG .eql 24 x y (.int .u64 a) (.int .u64 b)=some (.bool (eqF a b)):=by kernel_rfl
 rw[qCG] at e;exact qAF e
end
theorem qAN {B:List Nat} (hB:∀i,B.getD i 0<256) {S:ASt} {x y:Operand} (o k:Nat) (hk:k≤6):still S (qAD EG .or 24 x y (.int .u64 (qDO .u64 (.ofNat (pn B o (k+1))) 8)) (.int .u64 (qAH .u64 (.ofNat (B.getD (o+(k+1)) 0)))))=some (.int .u64 (.ofNat (pn B o (k+2))),S):=orG1 (p7 hB o (k+1) (by omega)) (hB _)
theorem qBq {B:List Nat} (hB:∀i,B.getD i 0<256) {S:ASt} {x y:Operand} (o:Nat):still S (qAD EG .or 24 x y (.int .u64 (.ofNat 0)) (.int .u64 (qAH .u64 (.ofNat (B.getD o 0)))))=some (.int .u64 (.ofNat (pn B o 1)),S):=orG0 (hB _)
def qHG (B:List Nat):Bool:=B.getD 5 0 == 1
def qWA (B:List Nat):AV:=qGJ (pn B 4 1) (qHG B) (pn B 14 8) (pn B 22 8) (pn B 30 8) (pn B 38 8) (pn B 6 8)
def qYX:AV:=qGJ 0 false 0 0 0 0 0
def qWB (B:List Nat):List Nat:=qGI (pn B 4 1) (if qHG B then 1 else 0) (pn B 6 8) (pn B 14 8) (pn B 22 8) (pn B 30 8) (pn B 38 8)
theorem pn1 (B:List Nat) (o:Nat):pn B o 1=B.getD o 0:=by show 0*256+B.getD (o+0) 0=_;simp
theorem q2r {B:List Nat} (hB:∀i,B.getD i 0<256) (S:ASt):qA5 EG 24 23 (.int .u64 (.ofNat (pn B 4 1))) S=some (.int .i64 (.ofNat (pn B 4 1)),S):=by rw[pn1];exact cvG (hB _) _
theorem q1s {B:List Nat} (hB:∀i,B.getD i 0<256):U6 (pn B 4 1) (pn B 14 8) (pn B 22 8) (pn B 30 8) (pn B 38 8) (pn B 6 8) :=
 ⟨by rw[pn1];have:=hB 4;omega,p8 hB 14,p8 hB 22,p8 hB 30,p8 hB 38,p8 hB 6⟩
def qDa (s a b:Nat):Bool:=(2≤s && s≤4) && (b == 0 || !(b == a))
structure SupOwn (H:List Nat→Nat→Nat):Prop where
 yes:∀{s:Nat} {c:Bool} {a b h k n:Nat} (S:ASt),U6 s a b h k n→qDa s a b=true→qAE Tryz.prog 60 [qGJ s c a b h k n] S (.tuple [.agg (bl (qAm H (qGI s (if c then 1 else 0) n a b h k))),nI 0],S)
 no:∀{s:Nat} {c:Bool} {a b h k n:Nat} (S:ASt),U6 s a b h k n→qDa s a b=false→qAE Tryz.prog 60 [qGJ s c a b h k n] S (.tuple [.agg (bl []),nI 2],S)
theorem qYz (B:List Nat):qAP 0 (qWA B):=qGa ..
theorem qYW {a b:AV} (ha:qAP 0 a) (hb:qAP 0 b):qAP 0 (.tuple [a,b]):=by
 simp only[qAP];intro x hx;simp only[List.mem_cons,List.not_mem_nil,or_false] at hx;rcases hx with rfl | rfl
 ·exact ha
 ·exact hb
section
variable {q:CallT} {H:List Nat→Nat→Nat}
theorem qPc {B:List Nat}:∀x,x∈qWB B→x<256:=qGL _ _ _ _ _ _ _ (by split<;>decide)
set_option maxHeartbeats 4000000 in
theorem ofSt (hS:Sums q H) (hO:SupOwn H) (hE:EqB) {B:List Nat} (hB:∀i,B.getD i 0<256) (hm:qDa (pn B 4 1) (pn B 14 8) (pn B 22 8)=true) (hd0:decide (blV (qAm H (qWB B))=blV B)=true) (S:ASt):qAE Tryz.prog 169 [.agg (bl B)] S (.tuple [qWA B,nI 0],S):=by
 obtain⟨C,hC⟩:∃C,C=qAm H (qWB B):=⟨_,rfl⟩;have hd:decide (blV C=blV B)=true:=by rw[hC];exact hd0
 have hcc:∀(S:ASt) (x y:Operand),still S (qAD EG .eql 24 x y (.int .u64 (.ofNat (pn B 5 1))) (.int .u64 (.ofNat 1)))=some (.bool (qHG B),S):=fun S x y=>by
  rw[eqG,pn1]
  congr 3
  unfold qHG;cases h:(B.getD 5 0 == 1)<;>simp at h ⊢<;>omega
 have hA:qAf Tryz.prog 169 [.agg (bl B)] (mkSt [] 1) (.tuple [qWA B,nI 0]):=by
  refine qAf.of_tm EGok (sum:=qA0 [48,60,95,123] (qIZ [(60,[qWA B],qJK (pn B) (qHG B) B,(.tuple [.agg (bl C),nI 0],qJK (pn B) (qHG B) B)),(123,[.slice (some (4,0)) 256 (.known 256),.slice (some (1,0)) 256 (.known 256)],qJL (pn B) (qHG B) B C,(.bool true,qJL (pn B) (qHG B) B C))])) (qAG (qDB fun w hw=>by
   simp only[List.mem_cons,List.not_mem_nil,or_false] at hw;rcases hw with rfl | rfl
   ·rw[hC];exact hO.yes _ (q1s hB) hm
   ·rw[←hd];exact hE _ 4 1 C B (by rw[hC];exact qEx hS qPc) hB (by kernel_rfl) (by kernel_rfl))) (Eq.mp (vcSt _ (pn B) (qHG B) B C (fun r=>r.1=.tuple [qWA B,nI 0])) ⟨qBq hB 4,q2r hB _,qBq hB 5,hcc _ _ _,qBq hB 6,qAN hB 6 0 (by omega),qAN hB 6 1 (by omega),qAN hB 6 2 (by omega),qAN hB 6 3 (by omega),qAN hB 6 4 (by omega),qAN hB 6 5 (by omega),qAN hB 6 6 (by omega),qBq hB 14,qAN hB 14 0 (by omega),qAN hB 14 1 (by omega),qAN hB 14 2 (by omega),qAN hB 14 3 (by omega),qAN hB 14 4 (by omega),qAN hB 14 5 (by omega),qAN hB 14 6 (by omega),qBq hB 22,qAN hB 22 0 (by omega),qAN hB 22 1 (by omega),qAN hB 22 2 (by omega),qAN hB 22 3 (by omega),qAN hB 22 4 (by omega),qAN hB 22 5 (by omega),qAN hB 22 6 (by omega),qBq hB 30,qAN hB 30 0 (by omega),qAN hB 30 1 (by omega),qAN hB 30 2 (by omega),qAN hB 30 3 (by omega),qAN hB 30 4 (by omega),qAN hB 30 5 (by omega),qAN hB 30 6 (by omega),qBq hB 38,qAN hB 38 0 (by omega),qAN hB 38 1 (by omega),qAN hB 38 2 (by omega),qAN hB 38 3 (by omega),qAN hB 38 4 (by omega),qAN hB 38 5 (by omega),qAN hB 38 6 (by omega),ca (qCB ..),ca (by rw[qEv rfl];exact qCB ..),(by repeat (first | exact trivial | refine qA1 rfl ?_)),rfl⟩)
 exact qAE.pureN hA (qYW (qYz B) (by simp[nI,qAP])) (fun a ha=>by
  simp only[List.mem_cons,List.not_mem_nil,or_false] at ha;subst ha;exact blP B)
set_option maxHeartbeats 4000000 in
theorem ofSf (hS:Sums q H) (hO:SupOwn H) (hE:EqB) {B:List Nat} (hB:∀i,B.getD i 0<256) (hm:qDa (pn B 4 1) (pn B 14 8) (pn B 22 8)=true) (hd0:decide (blV (qAm H (qWB B))=blV B)=false) (S:ASt):qAE Tryz.prog 169 [.agg (bl B)] S (.tuple [qYX,nI 4],S):=by
 obtain⟨C,hC⟩:∃C,C=qAm H (qWB B):=⟨_,rfl⟩;have hd:decide (blV C=blV B)=false:=by rw[hC];exact hd0
 have hcc:∀(S:ASt) (x y:Operand),still S (qAD EG .eql 24 x y (.int .u64 (.ofNat (pn B 5 1))) (.int .u64 (.ofNat 1)))=some (.bool (qHG B),S):=fun S x y=>by
  rw[eqG,pn1]
  congr 3
  unfold qHG;cases h:(B.getD 5 0 == 1)<;>simp at h ⊢<;>omega
 have hA:qAf Tryz.prog 169 [.agg (bl B)] (mkSt [] 1) (.tuple [qYX,nI 4]):=by
  refine qAf.of_tm EGok (sum:=qA0 [48,60,95,123] (qIZ [(60,[qWA B],qJO (pn B) (qHG B) B,(.tuple [.agg (bl C),nI 0],qJO (pn B) (qHG B) B)),(123,[.slice (some (4,0)) 256 (.known 256),.slice (some (1,0)) 256 (.known 256)],qJP (pn B) (qHG B) B C,(.bool false,qJP (pn B) (qHG B) B C))])) (qAG (qDB fun w hw=>by
   simp only[List.mem_cons,List.not_mem_nil,or_false] at hw;rcases hw with rfl | rfl
   ·rw[hC];exact hO.yes _ (q1s hB) hm
   ·rw[←hd];exact hE _ 4 1 C B (by rw[hC];exact qEx hS qPc) hB (by kernel_rfl) (by kernel_rfl))) (Eq.mp (vcSf _ (pn B) (qHG B) B C (fun r=>r.1=.tuple [qYX,nI 4])) ⟨qBq hB 4,q2r hB _,qBq hB 5,hcc _ _ _,qBq hB 6,qAN hB 6 0 (by omega),qAN hB 6 1 (by omega),qAN hB 6 2 (by omega),qAN hB 6 3 (by omega),qAN hB 6 4 (by omega),qAN hB 6 5 (by omega),qAN hB 6 6 (by omega),qBq hB 14,qAN hB 14 0 (by omega),qAN hB 14 1 (by omega),qAN hB 14 2 (by omega),qAN hB 14 3 (by omega),qAN hB 14 4 (by omega),qAN hB 14 5 (by omega),qAN hB 14 6 (by omega),qBq hB 22,qAN hB 22 0 (by omega),qAN hB 22 1 (by omega),qAN hB 22 2 (by omega),qAN hB 22 3 (by omega),qAN hB 22 4 (by omega),qAN hB 22 5 (by omega),qAN hB 22 6 (by omega),qBq hB 30,qAN hB 30 0 (by omega),qAN hB 30 1 (by omega),qAN hB 30 2 (by omega),qAN hB 30 3 (by omega),qAN hB 30 4 (by omega),qAN hB 30 5 (by omega),qAN hB 30 6 (by omega),qBq hB 38,qAN hB 38 0 (by omega),qAN hB 38 1 (by omega),qAN hB 38 2 (by omega),qAN hB 38 3 (by omega),qAN hB 38 4 (by omega),qAN hB 38 5 (by omega),qAN hB 38 6 (by omega),ca (qCB ..),ca (by rw[qEv rfl];exact qCB ..),(by repeat (first | exact trivial | refine qA1 rfl ?_)),rfl⟩)
 exact qAE.pureN hA (qYW (qGa ..) (by simp[nI,qAP])) (fun a ha=>by
  simp only[List.mem_cons,List.not_mem_nil,or_false] at ha;subst ha;exact blP B)
set_option maxHeartbeats 4000000 in
theorem ofSn (hS:Sums q H) (hO:SupOwn H) (hE:EqB) {B:List Nat} (hB:∀i,B.getD i 0<256) (hm:qDa (pn B 4 1) (pn B 14 8) (pn B 22 8)=false) (S:ASt):qAE Tryz.prog 169 [.agg (bl B)] S (.tuple [qYX,nI 4],S):=by
 obtain⟨C,hC⟩:∃C,C=[]:=⟨_,rfl⟩;have hcc:∀(S:ASt) (x y:Operand),still S (qAD EG .eql 24 x y (.int .u64 (.ofNat (pn B 5 1))) (.int .u64 (.ofNat 1)))=some (.bool (qHG B),S):=fun S x y=>by
  rw[eqG,pn1]
  congr 3
  unfold qHG;cases h:(B.getD 5 0 == 1)<;>simp at h ⊢<;>omega
 have hA:qAf Tryz.prog 169 [.agg (bl B)] (mkSt [] 1) (.tuple [qYX,nI 4]):=by
  refine qAf.of_tm EGok (sum:=qA0 [48,60,95,123] (qIZ [(60,[qWA B],qLb (pn B) (qHG B) B,(.tuple [.agg (bl C),nI 2],qLb (pn B) (qHG B) B))])) (qAG (qDB fun w hw=>by
   simp only[List.mem_cons,List.not_mem_nil,or_false] at hw;subst hw;rw[hC];exact hO.no _ (q1s hB) hm)) (Eq.mp (vcSn _ (pn B) (qHG B) B C (fun r=>r.1=.tuple [qYX,nI 4])) ⟨qBq hB 4,q2r hB _,qBq hB 5,hcc _ _ _,qBq hB 6,qAN hB 6 0 (by omega),qAN hB 6 1 (by omega),qAN hB 6 2 (by omega),qAN hB 6 3 (by omega),qAN hB 6 4 (by omega),qAN hB 6 5 (by omega),qAN hB 6 6 (by omega),qBq hB 14,qAN hB 14 0 (by omega),qAN hB 14 1 (by omega),qAN hB 14 2 (by omega),qAN hB 14 3 (by omega),qAN hB 14 4 (by omega),qAN hB 14 5 (by omega),qAN hB 14 6 (by omega),qBq hB 22,qAN hB 22 0 (by omega),qAN hB 22 1 (by omega),qAN hB 22 2 (by omega),qAN hB 22 3 (by omega),qAN hB 22 4 (by omega),qAN hB 22 5 (by omega),qAN hB 22 6 (by omega),qBq hB 30,qAN hB 30 0 (by omega),qAN hB 30 1 (by omega),qAN hB 30 2 (by omega),qAN hB 30 3 (by omega),qAN hB 30 4 (by omega),qAN hB 30 5 (by omega),qAN hB 30 6 (by omega),qBq hB 38,qAN hB 38 0 (by omega),qAN hB 38 1 (by omega),qAN hB 38 2 (by omega),qAN hB 38 3 (by omega),qAN hB 38 4 (by omega),qAN hB 38 5 (by omega),qAN hB 38 6 (by omega),ca (qCB ..),(by repeat (first | exact trivial | refine qA1 rfl ?_)),rfl⟩)
 exact qAE.pureN hA (qYW (qGa ..) (by simp[nI,qAP])) (fun a ha=>by
  simp only[List.mem_cons,List.not_mem_nil,or_false] at ha;subst ha;exact blP B)
end
end Go.Proofs.YtiafochainjglaaGreatDoor.cd4
end
section
open Go Go.Ax Go.Proofs
namespace Go.Proofs.YtiafochainjglaaGreatDoor.cd5
set_option linter.unusedVariables false
open cd cd3 cd4
noncomputable def EM:Env:=envEx Tryz.prog [0,3,4,23,24,25,27,29] [(76,Tryz.f76),(48,Tryz.f48)] []
noncomputable def flM:List (Nat×Fl):=[(76,⟨[5,9,15,23],[],[],[]⟩),(48,⟨[5,9,15,23],[],[],[]⟩)]
def fl0:Fl:=⟨[],[],[],[]⟩
noncomputable abbrev qGk (a:Int) (b:Bool) (c d e f g:Int):List AV:=[.int .i64 a,.bool b,.int .u64 c,.int .u64 d,.int .u64 e,.int .u64 f,.int .u64 g]
noncomputable abbrev qGj:=TM EM qAa flM fl0 60
noncomputable abbrev qGl (a:Int) (b:Bool) (c d e f g:Int):List AV:=[.int .i64 a,.bool b,.int .u64 c,.int .u64 d,.int .u64 e,.int .u64 f,.int .u64 g]
noncomputable def qVe (s a b h k n:Int) (c:Bool):ASt:=mkSt [(1,.cells (qGl s c a b h k n) true)] 2
noncomputable def qVd:ASt:=mkSt [] 2
noncomputable abbrev qGm (a:Int):=qAD EM BinOp.geq 23 (Operand.tmp 4) (Operand.const (Value.int .i64 2)) (AV.int .i64 a) (AV.int .i64 (.ofNat 2))
theorem q13 (s a b h k n:Int) (c e:Bool) (Q:AV×ASt→Prop) :
 Vq (qGj.call 76 [.agg (qGk s c a b h k n)] (mkSt [] 1)) (fun r=>Q (r.1,qG7 [] r.2)) (as_ (qVe s a b h k n c) (qGm s) (.bool false) (aq (Q (.bool false,qVd)))):=vq (by kernel_rfl)
noncomputable def qOx (s a b h k n:Int) (c:Bool):ASt:=mkSt [(1,.cells (qGl s c a b h k n) true)] 2
noncomputable def qVc:ASt:=mkSt [] 2
noncomputable abbrev qIp (a:Int):=qAD EM BinOp.leq 23 (Operand.tmp 8) (Operand.const (Value.int .i64 4)) (AV.int .i64 a) (AV.int .i64 (.ofNat 4))
theorem q12 (s a b h k n:Int) (c e:Bool) (Q:AV×ASt→Prop) :
 Vq (qGj.call 76 [.agg (qGk s c a b h k n)] (mkSt [] 1)) (fun r=>Q (r.1,qG7 [] r.2)) (as_ (qOx s a b h k n c) (qGm s) (.bool true) (as_ (qOx s a b h k n c) (qIp s) (.bool false) (aq (Q (.bool false,qVc))))):=vq (by kernel_rfl)
noncomputable def qLj (s a b h k n:Int) (c:Bool):ASt:=mkSt [(1,.cells (qGl s c a b h k n) true)] 2
noncomputable def qVb:ASt:=mkSt [] 2
noncomputable abbrev qN1 (a:Int):=qAD EM BinOp.eql 24 (Operand.tmp 14) (Operand.const (Value.int .u64 0)) (AV.int .u64 a) (AV.int .u64 (.ofNat 0))
theorem q11 (s a b h k n:Int) (c e:Bool) (Q:AV×ASt→Prop) :
 Vq (qGj.call 76 [.agg (qGk s c a b h k n)] (mkSt [] 1)) (fun r=>Q (r.1,qG7 [] r.2)) (as_ (qLj s a b h k n c) (qGm s) (.bool true) (as_ (qLj s a b h k n c) (qIp s) (.bool true) (as_ (qLj s a b h k n c) (qN1 b) (.bool true) (aq (Q (.bool true,qVb)))))):=vq (by kernel_rfl)
noncomputable def qJS (s a b h k n:Int) (c:Bool):ASt:=mkSt [(1,.cells (qGl s c a b h k n) true)] 2
noncomputable def qVa:ASt:=mkSt [] 2
theorem q10 (s a b h k n:Int) (c e:Bool) (Q:AV×ASt→Prop) :
 Vq (qGj.call 76 [.agg (qGk s c a b h k n)] (mkSt [] 1)) (fun r=>Q (r.1,qG7 [] r.2)) (as_ (qJS s a b h k n c) (qGm s) (.bool true) (as_ (qJS s a b h k n c) (qIp s) (.bool true) (as_ (qJS s a b h k n c) (qN1 b) (.bool false) (as_ (qJS s a b h k n c) (qAD EM .neq 24 (.tmp 19) (.tmp 22) (.int .u64 b) (.int .u64 a)) (.bool e) (aq (Q (.bool e,qVa))))))):=vq (by kernel_rfl)
noncomputable def qV9 (s a b h k n:Int) (c:Bool):ASt:=mkSt [(1,.cells (qGl s c a b h k n) true)] 2
noncomputable def qV8:ASt:=mkSt [] 2
theorem q1Z (s a b h k n:Int) (c e:Bool) (Q:AV×ASt→Prop) :
 Vq (qGj.call 48 [.agg (qGk s c a b h k n)] (mkSt [] 1)) (fun r=>Q (r.1,qG7 [] r.2)) (as_ (qV9 s a b h k n c) (qGm s) (.bool false) (aq (Q (.bool false,qV8)))):=vq (by kernel_rfl)
noncomputable def qOw (s a b h k n:Int) (c:Bool):ASt:=mkSt [(1,.cells (qGl s c a b h k n) true)] 2
noncomputable def qV7:ASt:=mkSt [] 2
theorem q1Y (s a b h k n:Int) (c e:Bool) (Q:AV×ASt→Prop) :
 Vq (qGj.call 48 [.agg (qGk s c a b h k n)] (mkSt [] 1)) (fun r=>Q (r.1,qG7 [] r.2)) (as_ (qOw s a b h k n c) (qGm s) (.bool true) (as_ (qOw s a b h k n c) (qIp s) (.bool false) (aq (Q (.bool false,qV7))))):=vq (by kernel_rfl)
noncomputable def qLi (s a b h k n:Int) (c:Bool):ASt:=mkSt [(1,.cells (qGl s c a b h k n) true)] 2
noncomputable def qV6:ASt:=mkSt [] 2
theorem q1X (s a b h k n:Int) (c e:Bool) (Q:AV×ASt→Prop) :
 Vq (qGj.call 48 [.agg (qGk s c a b h k n)] (mkSt [] 1)) (fun r=>Q (r.1,qG7 [] r.2)) (as_ (qLi s a b h k n c) (qGm s) (.bool true) (as_ (qLi s a b h k n c) (qIp s) (.bool true) (as_ (qLi s a b h k n c) (qN1 b) (.bool true) (aq (Q (.bool true,qV6)))))):=vq (by kernel_rfl)
noncomputable def qJR (s a b h k n:Int) (c:Bool):ASt:=mkSt [(1,.cells (qGl s c a b h k n) true)] 2
noncomputable def qV5:ASt:=mkSt [] 2
theorem q1W (s a b h k n:Int) (c e:Bool) (Q:AV×ASt→Prop) :
 Vq (qGj.call 48 [.agg (qGk s c a b h k n)] (mkSt [] 1)) (fun r=>Q (r.1,qG7 [] r.2)) (as_ (qJR s a b h k n c) (qGm s) (.bool true) (as_ (qJR s a b h k n c) (qIp s) (.bool true) (as_ (qJR s a b h k n c) (qN1 b) (.bool false) (as_ (qJR s a b h k n c) (qAD EM .neq 24 (.tmp 19) (.tmp 22) (.int .u64 b) (.int .u64 a)) (.bool e) (aq (Q (.bool e,qV5))))))):=vq (by kernel_rfl)
theorem qV1:Env.Ok Tryz.prog EM:=envEx_ok (xs:=[]) ⟨⟨Tryz.func76,Tryz.call76⟩,⟨Tryz.func48,Tryz.call48⟩,trivial⟩ trivial (by kernel_rfl)
section
variable {S:ASt} {x y:Operand} {a b:Int}
theorem q0y:still S (qAD EM .geq 23 x y (.int .i64 a) (.int .i64 b))=some (.bool (!decide (a<b)),S):=by
 have e:qAD EM .geq 23 x y (.int .i64 a) (.int .i64 b)=some (.bool (!ltF a b)):=by kernel_rfl
 rw[qDH] at e;exact qAF e
theorem q0x:still S (qAD EM .leq 23 x y (.int .i64 a) (.int .i64 b))=some (.bool (!decide (b<a)),S):=by
 have e:qAD EM .leq 23 x y (.int .i64 a) (.int .i64 b)=some (.bool (!ltF b a)):=by kernel_rfl
 rw[qDH] at e;exact qAF e
theorem q0z:still S (qAD EM .eql 24 x y (.int .u64 a) (.int .u64 b))=some (.bool (a == b),S):=by
 have e:qAD EM .eql 24 x y (.int .u64 a) (.int .u64 b)=some (.bool (eqF a b)):=by kernel_rfl
 rw[qCG] at e;exact qAF e
theorem mNeq:still S (qAD EM .neq 24 x y (.int .u64 a) (.int .u64 b))=some (.bool (!(a == b)),S):=by
 have e:qAD EM .neq 24 x y (.int .u64 a) (.int .u64 b)=some (.bool (!eqF a b)):=by kernel_rfl
 rw[qCG] at e;exact qAF e
end
theorem qZe {s:Nat} {c:Bool} {a b h k n:Nat} (S:ASt):qAE Tryz.prog 76 [qGJ s c a b h k n] S (.bool (qDa s a b),S):=by
 have hA:qAf Tryz.prog 76 [qGJ s c a b h k n] (mkSt [] 1) (.bool (qDa s a b)):=by
  by_cases h1:s<2
  ·have:qDa s a b=false:=by unfold qDa;simp;omega
   rw[this];exact qAf.of_tm qV1 qAB (Eq.mp (q13 (.ofNat s) (.ofNat a) (.ofNat b) (.ofNat h) (.ofNat k) (.ofNat n) c false (fun r=>r.1=.bool false)) ⟨by rw[q0y,decide_eq_true (by simp only[Int.ofNat_eq_natCast];omega)];rfl,rfl⟩)
  have g1:∀(S:ASt) (x y:Operand),still S (qAD EM .geq 23 x y (.int .i64 (.ofNat s)) (.int .i64 (.ofNat 2)))=some (.bool true,S):=fun S x y=>by rw[q0y,decide_eq_false (by simp only[Int.ofNat_eq_natCast];omega)];rfl
  by_cases h2:4<s
  ·have:qDa s a b=false:=by unfold qDa;simp;omega
   rw[this];exact qAf.of_tm qV1 qAB (Eq.mp (q12 (.ofNat s) (.ofNat a) (.ofNat b) (.ofNat h) (.ofNat k) (.ofNat n) c false (fun r=>r.1=.bool false)) ⟨g1 _ _ _,by rw[q0x,decide_eq_true (by simp only[Int.ofNat_eq_natCast];omega)];rfl,rfl⟩)
  have g2:∀(S:ASt) (x y:Operand),still S (qAD EM .leq 23 x y (.int .i64 (.ofNat s)) (.int .i64 (.ofNat 4)))=some (.bool true,S):=fun S x y=>by rw[q0x,decide_eq_false (by simp only[Int.ofNat_eq_natCast];omega)];rfl
  by_cases h3:b=0
  ·have:qDa s a b=true:=by unfold qDa;simp[h3];omega
   rw[this];subst h3;exact qAf.of_tm qV1 qAB (Eq.mp (q11 (.ofNat s) (.ofNat a) (.ofNat 0) (.ofNat h) (.ofNat k) (.ofNat n) c false (fun r=>r.1=.bool true)) ⟨g1 _ _ _,g2 _ _ _,q0z,rfl⟩)
  ·have:qDa s a b=!(b == a):=by
    have e0:(b == 0)=false:=by simpa using h3
    have e1:(2≤s && s≤4:Bool)=true:=by simp;omega
    unfold qDa;rw[e0,e1];rfl
   rw[this];exact qAf.of_tm qV1 qAB (Eq.mp (q10 (.ofNat s) (.ofNat a) (.ofNat b) (.ofNat h) (.ofNat k) (.ofNat n) c (!(b == a)) (fun r=>r.1=.bool (!(b == a)))) ⟨g1 _ _ _,g2 _ _ _,by
    rw[q0z];have:(Int.ofNat b == Int.ofNat 0)=false:=by simp only[Int.ofNat_eq_natCast,beq_eq_false_iff_ne,ne_eq];omega
    rw[this],by
    rw[mNeq]
    congr 4
    cases hb:(b == a)<;>simp at hb ⊢<;>omega,rfl⟩)
 exact qAE.pureN hA (by simp[qAP]) (fun x hx=>by
  simp only[List.mem_cons,List.not_mem_nil,or_false] at hx;subst hx;exact qGa ..)
theorem mayR {s:Nat} {c:Bool} {a b h k n:Nat} (S:ASt):qAE Tryz.prog 48 [qGJ s c a b h k n] S (.bool (qDa s a b),S):=by
 have hA:qAf Tryz.prog 48 [qGJ s c a b h k n] (mkSt [] 1) (.bool (qDa s a b)):=by
  by_cases h1:s<2
  ·have:qDa s a b=false:=by unfold qDa;simp;omega
   rw[this];exact qAf.of_tm qV1 qAB (Eq.mp (q1Z (.ofNat s) (.ofNat a) (.ofNat b) (.ofNat h) (.ofNat k) (.ofNat n) c false (fun r=>r.1=.bool false)) ⟨by rw[q0y,decide_eq_true (by simp only[Int.ofNat_eq_natCast];omega)];rfl,rfl⟩)
  have g1:∀(S:ASt) (x y:Operand),still S (qAD EM .geq 23 x y (.int .i64 (.ofNat s)) (.int .i64 (.ofNat 2)))=some (.bool true,S):=fun S x y=>by rw[q0y,decide_eq_false (by simp only[Int.ofNat_eq_natCast];omega)];rfl
  by_cases h2:4<s
  ·have:qDa s a b=false:=by unfold qDa;simp;omega
   rw[this];exact qAf.of_tm qV1 qAB (Eq.mp (q1Y (.ofNat s) (.ofNat a) (.ofNat b) (.ofNat h) (.ofNat k) (.ofNat n) c false (fun r=>r.1=.bool false)) ⟨g1 _ _ _,by rw[q0x,decide_eq_true (by simp only[Int.ofNat_eq_natCast];omega)];rfl,rfl⟩)
  have g2:∀(S:ASt) (x y:Operand),still S (qAD EM .leq 23 x y (.int .i64 (.ofNat s)) (.int .i64 (.ofNat 4)))=some (.bool true,S):=fun S x y=>by rw[q0x,decide_eq_false (by simp only[Int.ofNat_eq_natCast];omega)];rfl
  by_cases h3:b=0
  ·have:qDa s a b=true:=by unfold qDa;simp[h3];omega
   rw[this];subst h3;exact qAf.of_tm qV1 qAB (Eq.mp (q1X (.ofNat s) (.ofNat a) (.ofNat 0) (.ofNat h) (.ofNat k) (.ofNat n) c false (fun r=>r.1=.bool true)) ⟨g1 _ _ _,g2 _ _ _,q0z,rfl⟩)
  ·have:qDa s a b=!(b == a):=by
    have e0:(b == 0)=false:=by simpa using h3
    have e1:(2≤s && s≤4:Bool)=true:=by simp;omega
    unfold qDa;rw[e0,e1];rfl
   rw[this];exact qAf.of_tm qV1 qAB (Eq.mp (q1W (.ofNat s) (.ofNat a) (.ofNat b) (.ofNat h) (.ofNat k) (.ofNat n) c (!(b == a)) (fun r=>r.1=.bool (!(b == a)))) ⟨g1 _ _ _,g2 _ _ _,by
    rw[q0z];have:(Int.ofNat b == Int.ofNat 0)=false:=by simp only[Int.ofNat_eq_natCast,beq_eq_false_iff_ne,ne_eq];omega
    rw[this],by
    rw[mNeq]
    congr 4
    cases hb:(b == a)<;>simp at hb ⊢<;>omega,rfl⟩)
 exact qAE.pureN hA (by simp[qAP]) (fun x hx=>by
  simp only[List.mem_cons,List.not_mem_nil,or_false] at hx;subst hx;exact qGa ..)
end Go.Proofs.YtiafochainjglaaGreatDoor.cd5
end
section
open Go Go.Ax Go.Proofs
namespace Go.Proofs.YtiafochainjglaaGreatDoor.cd5
open cd cd3 cd4
set_option linter.unusedVariables false
open Classical in
noncomputable def qUs (A:AV) (e:Bool):CallT:=fun f args st=>if f=76∧args=[A] then some (.bool e,st) else none
theorem qQZ {A:AV} {e:Bool} (h:∀S,qAE Tryz.prog 76 [A] S (.bool e,S)):CallsOK Tryz.prog (qUs A e):=fun B w0 f args st r hr ι w args' hsr hv=>by
 unfold qUs at hr
 split at hr
 ·rename_i hh;obtain⟨rfl,rfl⟩:=hh;simp only[qz1] at hr;subst hr;exact h st B w0 ι w args' hsr hv
 ·cases hr
theorem qMC (A:AV) (e:Bool) (S:ASt):qUs A e 76 [A] S=some (.bool e,S):=by unfold qUs;simp
theorem qQ0 {A:AV} {e:Bool} {f:Nat} {args:List AV} {S:ASt} (h:f≠76):qUs A e f args S=none:=by unfold qUs;simp[h]
theorem qPd {q:CallT} {H:List Nat→Nat→Nat} (hS:Sums q H) {A:AV} {e:Bool} (h:∀S,qAE Tryz.prog 76 [A] S (.bool e,S)):Sums (orC (qUs A e) q) H :=
 ⟨orC_ok (qQZ h) hS.ok,hS.lt,fun h1 h2 h3 h4=>qAW (qQ0 (by decide)) (hS.own h1 h2 h3 h4),fun h1 h2 h3 h4=>qAW (qQ0 (by decide)) (hS.ref h1 h2 h3 h4)⟩
theorem q1O:cd.zs 256=bl []:=by kernel_rfl
theorem qI9 {q:CallT} {H:List Nat→Nat→Nat} (hS:Sums q H):SupOwn H :=
 ⟨fun {s c a b h k n} S U hm=>by
   have hM:∀c S,qAE Tryz.prog 76 [qGJ s c a b h k n] S (.bool true,S):=fun c S=>by rw[←hm];exact qZe S
   cases c
   ·exact atSBf (qPd hS (hM false)) U (fun S=>qAo (qMC _ _ S)) S
   ·exact atSBt (qPd hS (hM true)) U (fun S=>qAo (qMC _ _ S)) S,
  fun {s c a b h k n} S U hm=>by
   have hM:∀S,qAE Tryz.prog 76 [qGJ s c a b h k n] S (.bool false,S):=fun S=>by rw[←hm];exact qZe S
   have hh:qAf Tryz.prog 60 [qGJ s c a b h k n] (mkSt [] 1) (.tuple [.agg (bl []),nI 2]) :=
    qAf.of_tm q0n (qAG (qQZ hM)) (Eq.mp (q1U (qUs (qGJ s c a b h k n) false) (.ofNat s) (.ofNat a) (.ofNat b) (.ofNat h) (.ofNat k) (.ofNat n) c (fun r=>r.1=.tuple [.agg (bl []),nI 2])) ⟨ca (qMC _ _ _),congrArg (fun x=>AV.tuple [AV.agg x,nI 2]) q1O⟩)
   exact qAE.pureN hh (qYW (blP _) (by simp[nI,qAP])) (fun x hx=>by
    simp only[List.mem_cons,List.not_mem_nil,or_false] at hx;subst hx;exact qGa ..)⟩
end Go.Proofs.YtiafochainjglaaGreatDoor.cd5
end
