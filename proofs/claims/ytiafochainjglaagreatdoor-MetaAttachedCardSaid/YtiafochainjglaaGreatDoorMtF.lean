/-
  OWN WORK, A PART: an abstract machine for the program's text that the kernel can run, and the proof that it is sound: what it answers is what the program answers; contracts of functions by it. No condition.
-/
import Derived.Test.YtiafochainjglaaGreatDoorMtE
section
open Go Go.Ax Go.Proofs
namespace Go.Proofs.YtiafochainjglaaGreatDoor.drp
set_option linter.unusedVariables false
open cd cd2 cd3 cd4 cd5 cd9 oo
theorem Ov.only0 {S Y:ASt} {l:List (Nat×AO)} {k:Nat} {a:AO} (o:Ov S Y l) (hi:l[0]? = some (k,a)):Ov S Y [(k,a)]:=by
 refine⟨o.next,fun i p hp=>?_,fun i j p r hp hr _=>?_,o.old,o.tidy⟩
 ·cases i with
  | zero=>simp only[List.getElem?_cons_zero,Option.some.injEq] at hp;subst hp;exact o.loc 0 _ hi
  | succ n=>simp at hp
 ·cases i with
  | zero=>cases j with
   | zero=>rfl
   | succ n=>simp at hr
  | succ n=>simp at hp
section
variable {S Y:ASt} {a b i:Nat} {x y:Operand}
end
def stepN (i:Nat) (il:Bool) (n h nu ho:Nat):Nat×Nat:=cond (il && (decide (nu<n) && decide (n % 4=i))) (n,h) (nu,ho)
section
variable {S:ASt}
end
end Go.Proofs.YtiafochainjglaaGreatDoor.drp
end

section
open Go Go.Ax Go.Proofs
namespace Go.Proofs.YtiafochainjglaaGreatDoor.drp
open cd cd2 cd3 cd4 cd5 cd9 oo
set_option linter.unusedVariables false
section
variable (H:List Nat→Nat→Nat) (X:List Nat→Nat) (b:Nat→List Nat) (k:Nat)
def hotF:Nat→Nat×Nat
 | 0=>(0,0)
 | i+1=>stepN i (iL H (b (5+i))) (lN H (b (5+i))) (lS H (b (5+i))) (hotF i).1 (hotF i).2
def mkM:Bool:=iM H (b 4) && !beyS (mX H (b 4)) k
def seM:Nat:=cond (mkM H b k) (mX H (b 4)) 0
def metaL:List AV:=mL k (LSx H b) (LSc H b) (LKx X b) (LKq X b) (mkM H b k) (seM H b k) (hotF H b 4).1 (hotF H b 4).2
def says:Bool:=decide (LSe H b=0∧LKe X b=0)
def takeV:AV:=cond (says H X b) (.tuple [.agg (metaL H X b k),.int .i64 (.ofNat 0)]) (.tuple [.agg zM,.int .i64 (.ofNat 6)])
end
section
variable {q q2:CallT} {H:List Nat→Nat→Nat} {X:List Nat→Nat} {S:ASt} {d k:Nat} {las:List (List Nat)} {es:List dsk.En}
end
end Go.Proofs.YtiafochainjglaaGreatDoor.drp
end
