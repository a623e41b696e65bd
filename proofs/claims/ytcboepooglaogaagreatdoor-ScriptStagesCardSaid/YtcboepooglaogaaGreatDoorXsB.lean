/-
  OWN WORK, A PART: an abstract machine for the program's text that the kernel can run, and the proof that it is sound: what it answers is what the program answers; contracts of functions by it. No condition.
-/
import Derived.Test.YtcboepooglaogaaGreatDoorXsA
section
open Go Go.Ax Go.Proofs
namespace Go.Proofs.YtcboepooglaogaaGreatDoor.spt
set_option linter.unusedVariables false
def hexd (a:Nat):Nat:=hexs.getD a 0
def digL (d:List Nat):List Nat:=d.flatMap fun x=>[hexd (x / 16),hexd (x % 16)]
section
variable {d:List Nat} {n i x c:Nat} {S:ASt}
end
end Go.Proofs.YtcboepooglaogaaGreatDoor.spt
end

section
open Go Go.Ax Go.Proofs
namespace Go.Proofs.YtcboepooglaogaaGreatDoor.spt
set_option linter.unusedVariables false
def Vx:Nat→AV
 | 0=>.slice none 0 (.known 0)
 | i+1=>.slice (some (1,0)) (2*(i+1)) (.rest 1)
section
variable {d:List Nat} {n i x c:Nat} {S:ASt}
end
def trim (d:List Nat):Nat→Nat
 | 0=>0
 | n+1=>if d.getD n 0=0 then trim d n else n+1
def blkT (d:List Nat):List Nat:=if trim d 256=0 then [45] else digL (d.take (trim d 256))
section
variable {d:List Nat} {n m x:Nat} {S:ASt}
end
section
variable {d:List Nat} {n:Nat} {S:ASt}
end
section
variable {d:List Nat} {n:Nat} {S:ASt}
end
end Go.Proofs.YtcboepooglaogaaGreatDoor.spt
end
