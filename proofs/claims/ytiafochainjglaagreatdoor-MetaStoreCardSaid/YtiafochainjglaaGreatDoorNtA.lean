/-
  OWN WORK, A PART: an abstract machine for the program's text that the kernel can run, and the proof that it is sound: what it answers is what the program answers; contracts of functions by it. No condition.
-/
import Derived.Test.YtiafochainjglaaGreatDoorMtH
import Derived.KernelRfl
namespace Go.Proofs.YtiafochainjglaaGreatDoor.drp
open Go Go.Ax Go.Proofs
set_option linter.unusedVariables false
namespace pu
def sG (s:Int) (c:Bool) (x:Nat→Nat):List AV:=[.int .i64 s,.bool c,.int .u64 (.ofNat (x 1)),.int .u64 (.ofNat (x 2)),.int .u64 (.ofNat (x 3)),.int .u64 (.ofNat (x 4)),.int .u64 (.ofNat (x 5))]
end pu
namespace pu
open cd cd2 cd3 cd4 cd5 cd9 oo my
section
variable {Y:ASt} {a b:Nat} {z:Int} {x y:Operand}
end
def qZA (s:Int) (a b:Nat):Bool:=match s with
 | .ofNat n=>qDa n a b
 | .negSucc _=>false
noncomputable def EMy:Env:=envEx Tryz.prog [0,3,4,5,23,24,25,27,28,29] [(76,Tryz.f76),(48,Tryz.f48)] []
theorem q0m:Env.Ok Tryz.prog EMy:=envEx_ok (xs:=[]) ⟨⟨Tryz.func76,Tryz.call76⟩,⟨Tryz.func48,Tryz.call48⟩,trivial⟩ trivial (by kernel_rfl)
theorem sG_p (s:Int) (c:Bool) (x:Nat→Nat):∀v,v∈sG s c x→∀k,qAP k v:=fun v hv k=>by
 simp only[sG,List.mem_cons,List.not_mem_nil,or_false] at hv;rcases hv with rfl | rfl | rfl | rfl | rfl | rfl | rfl<;>simp[qAP]
theorem tL_p (Z:Nat→Int):∀v,v∈cd6.tL Z→∀k,qAP k v:=fun v hv k=>by
 unfold cd6.tL at hv;rcases List.mem_cons.1 hv with rfl | hv
 ·simp[qAP]
 ·rcases List.mem_append.1 hv with hv | hv
  ·obtain⟨i,_,rfl⟩:=List.mem_map.1 hv;simp[qAP]
  ·simp only[List.mem_cons,List.not_mem_nil,or_false] at hv;rcases hv with rfl | rfl<;>simp[qAP]
theorem qVz (s:Int) (c:Bool) (x:Nat→Nat) (S:ASt):qAE Tryz.prog 76 [.agg (sG s c x)] S (.bool (qZA s (x 1) (x 2)),S)∧qAE Tryz.prog 48 [.agg (sG s c x)] S (.bool (qZA s (x 1) (x 2)),S):=by
 cases s with
 | ofNat n=>exact⟨qZe (s:=n) (c:=c) (a:=x 1) (b:=x 2) (h:=x 3) (k:=x 4) (n:=x 5) S,mayR (s:=n) (c:=c) (a:=x 1) (b:=x 2) (h:=x 3) (k:=x 4) (n:=x 5) S⟩
 | negSucc n =>
  have h1:qAf Tryz.prog 76 [.agg (sG (.negSucc n) c x)] (mkSt [] 1) (.bool false):=qAf.of_fst q0m qAB (n:=40) (by kernel_rfl);have h2:qAf Tryz.prog 48 [.agg (sG (.negSucc n) c x)] (mkSt [] 1) (.bool false):=qAf.of_fst q0m qAB (n:=40) (by kernel_rfl);have hp:∀a,a∈[AV.agg (sG (.negSucc n) c x)]→qAP 0 a:=fun a ha=>by rw[List.mem_singleton.1 ha];exact qEP (fun v h=>sG_p _ _ _ v h _)
  exact⟨qAE.pureN h1 (qEL ..) hp,qAE.pureN h2 (qEL ..) hp⟩
theorem qPa (Z:Nat→Int) (S:ASt):qAE Tryz.prog 77 [.agg (cd6.tL Z)] S (.bool (cd6.qNO (cd6.tL Z)),S)∧qAE Tryz.prog 49 [.agg (cd6.tL Z)] S (.bool (cd6.qNO (cd6.tL Z)),S) :=
 have hp:∀a,a∈[AV.agg (cd6.tL Z)]→qAP 0 a:=fun a ha=>by rw[List.mem_singleton.1 ha];exact qEP (fun v h=>tL_p _ v h _)
 ⟨qAE.pureN (n:=0) (cd6.at50 Z) (qEL ..) hp,qAE.pureN (n:=0) (cd6.at54 Z) (qEL ..) hp⟩
end pu
end Go.Proofs.YtiafochainjglaaGreatDoor.drp
