/-
  OWN WORK, A PART: an abstract machine for the program's text that the kernel can run, and the proof that it is sound: what it answers is what the program answers; contracts of functions by it. No condition.
-/
import Derived.Test.YtiafochainjglaaGreatDoorNtA
import Derived.KernelRfl
import Derived.Test.YtiafochainjglaaGreatDoorNtC
import Derived.Test.YtiafochainjglaaGreatDoorMtH
import Derived.Test.YtiafochainjglaaGreatDoorMtI
namespace Go.Proofs.YtiafochainjglaaGreatDoor.drp
open Go Go.Ax Go.Proofs
set_option linter.unusedVariables false
namespace pu
open cd cd2 cd3 cd4 cd5 cd9 oo my fm
open lw (qC9 qBU)
open sh (HH XX qDb qD1)
theorem qZd {Z:Nat→Int} (h:cd6.qNO (cd6.tL Z)=true):(∃a:Nat,Z 17=.ofNat a∧a<256)∧∃a:Nat,Z 18=.ofNat a∧a<256:=by
 have e17:cd6.tyL (cd6.tL Z)=Z 17:=by kernel_rfl
 have e18:cd6.hoL (cd6.tL Z)=Z 18:=by kernel_rfl
 have h0:∀z,eqF z (.ofNat 0)=true→∃a:Nat,z=.ofNat a∧a<256:=fun z hz=>⟨0,by rw[qCG] at hz;exact eq_of_beq hz,by omega⟩;have hk:∀z,cd6.qFo z=true→∃a:Nat,z=.ofNat a∧a<256:=by
  intro z hz
  match z,hz with
  | .ofNat a,hz =>
   refine⟨a,rfl,?_⟩;unfold cd6.qFo at hz;rw[qBN,qBN] at hz
   by_cases h6:6<a
   ·rw[decide_eq_true h6] at hz;cases hh:(!decide (a<1))<;>rw[hh] at hz<;>cases hz
   ·omega
  | .negSucc a,hz=>cases hz
 have hw:∀z,cd6.qIY z=true→∃a:Nat,z=.ofNat a∧a<256:=by
  intro z hz
  match z,hz with
  | .ofNat a,hz=>exact⟨a,rfl,by have:=cd6.qOt hz;simp at this;omega⟩
  | .negSucc a,hz=>cases hz
 unfold cd6.qNO at h;rw[e17,e18] at h;cases c1:eqF (Z 17) (.ofNat 0)
 ·rw[c1,cond_false] at h;cases c2:cd6.qFo (Z 17)
  ·rw[c2] at h;cases h
  ·rw[c2,Bool.not_true,cond_false] at h;refine⟨hk _ c2,?_⟩;cases c3:cd6.qOq (Z 17)
   ·rw[c3,cond_false] at h;cases c4:cd6.qIY (Z 18)
    ·rw[c4] at h;cases h
    ·exact hw _ c4
   ·rw[c3,cond_true] at h;cases c4:eqF (Z 18) (.ofNat 0)
    ·rw[c4] at h;cases h
    ·exact h0 _ c4
 ·rw[c1,cond_true] at h;exact⟨h0 _ c1,h0 _ h⟩
theorem qYx {Z:Nat→Int} {y:Nat→Nat} (h:∀i,i<19→Z i=.ofNat (y i)):cd6.tL Z=rL y:=by
 have e:cd6.tL Z=cd6.tL (fun i=>.ofNat (y i)):=by
  unfold cd6.tL;rw[h 0 (by decide),h 17 (by decide),h 18 (by decide),List.map_congr_left (fun i hi=>by rw[h (i+1) (by have:=List.mem_range.1 hi;omega)])]
 exact e.trans (by kernel_rfl)
theorem q1P (y:Nat→Nat):cd6.tL (zOf (y 0) (y 17) (y 18) (fun i=>y (i+1)))=rL y:=by kernel_rfl
section
variable {kb d l m n c0 k:Nat} {P:AV} {S S1 X:ASt} {b s:Int} {c:Bool} {x:Nat→Nat} {Z:Nat→Int} {t:Nat} {mk:Bool} {se nu ho:Nat}
end
end pu
end Go.Proofs.YtiafochainjglaaGreatDoor.drp
