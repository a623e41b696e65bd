/-
  OWN WORK, A PART: an abstract machine for the program's text that the kernel can run, and the proof that it is sound: what it answers is what the program answers; contracts of functions by it. No condition.
-/
import Derived.Test.YtiafochainjglaaGreatDoorMtA
import Derived.Test.YtiafochainjglaaGreatDoorMtF
import Derived.KernelRfl

