/-
  OWN WORK, A PART: an abstract machine for the program's text that the kernel can run, and the proof that it is sound: what it answers is what the program answers; contracts of functions by it. No condition.
-/
import Derived.Test.YtiafochainjglaaGreatDoorHaA
import Derived.KernelRfl
section
namespace Go.Proofs.YtiafochainjglaaGreatDoor.shaPart
open Go.Ax
theorem q0O:MemoOK Tryz.prog ⟨202,[.int .u64 (.ofNat 83)],.int .u32 (.ofNat 1555081692)⟩:=qAT (n:=40) qBo qAB Tryz.call202 rfl (by kernel_rfl)
theorem q0N:MemoOK Tryz.prog ⟨202,[.int .u64 (.ofNat 89)],.int .u32 (.ofNat 1996064986)⟩:=qAT (n:=40) qBo qAB Tryz.call202 rfl (by kernel_rfl)
theorem q0M:MemoOK Tryz.prog ⟨202,[.int .u64 (.ofNat 97)],.int .u32 (.ofNat 2554220882)⟩:=qAT (n:=40) qBo qAB Tryz.call202 rfl (by kernel_rfl)
theorem qXy:MemoOK Tryz.prog ⟨202,[.int .u64 (.ofNat 101)],.int .u32 (.ofNat 2821834349)⟩:=qAT (n:=40) qBo qAB Tryz.call202 rfl (by kernel_rfl)
theorem qXx:MemoOK Tryz.prog ⟨202,[.int .u64 (.ofNat 103)],.int .u32 (.ofNat 2952996808)⟩:=qAT (n:=40) qBo qAB Tryz.call202 rfl (by kernel_rfl)
theorem qXw:MemoOK Tryz.prog ⟨202,[.int .u64 (.ofNat 107)],.int .u32 (.ofNat 3210313671)⟩:=qAT (n:=40) qBo qAB Tryz.call202 rfl (by kernel_rfl)
theorem qXv:MemoOK Tryz.prog ⟨202,[.int .u64 (.ofNat 109)],.int .u32 (.ofNat 3336571891)⟩:=qAT (n:=40) qBo qAB Tryz.call202 rfl (by kernel_rfl)
theorem qXu:MemoOK Tryz.prog ⟨202,[.int .u64 (.ofNat 113)],.int .u32 (.ofNat 3584528711)⟩:=qAT (n:=40) qBo qAB Tryz.call202 rfl (by kernel_rfl)
theorem qXt:MemoOK Tryz.prog ⟨202,[.int .u64 (.ofNat 127)],.int .u32 (.ofNat 113926993)⟩:=qAT (n:=40) qBo qAB Tryz.call202 rfl (by kernel_rfl)
theorem qXs:MemoOK Tryz.prog ⟨202,[.int .u64 (.ofNat 131)],.int .u32 (.ofNat 338241895)⟩:=qAT (n:=40) qBo qAB Tryz.call202 rfl (by kernel_rfl)
theorem qXr:MemoOK Tryz.prog ⟨202,[.int .u64 (.ofNat 137)],.int .u32 (.ofNat 666307205)⟩:=qAT (n:=40) qBo qAB Tryz.call202 rfl (by kernel_rfl)
theorem qXq:MemoOK Tryz.prog ⟨202,[.int .u64 (.ofNat 139)],.int .u32 (.ofNat 773529912)⟩:=qAT (n:=40) qBo qAB Tryz.call202 rfl (by kernel_rfl)
theorem qXp:MemoOK Tryz.prog ⟨202,[.int .u64 (.ofNat 149)],.int .u32 (.ofNat 1294757372)⟩:=qAT (n:=40) qBo qAB Tryz.call202 rfl (by kernel_rfl)
theorem qXo:MemoOK Tryz.prog ⟨202,[.int .u64 (.ofNat 151)],.int .u32 (.ofNat 1396182291)⟩:=qAT (n:=40) qBo qAB Tryz.call202 rfl (by kernel_rfl)
theorem qXn:MemoOK Tryz.prog ⟨202,[.int .u64 (.ofNat 157)],.int .u32 (.ofNat 1695183700)⟩:=qAT (n:=40) qBo qAB Tryz.call202 rfl (by kernel_rfl)
theorem qXm:MemoOK Tryz.prog ⟨202,[.int .u64 (.ofNat 163)],.int .u32 (.ofNat 1986661051)⟩:=qAT (n:=40) qBo qAB Tryz.call202 rfl (by kernel_rfl)
theorem qXl:MemoOK Tryz.prog ⟨202,[.int .u64 (.ofNat 167)],.int .u32 (.ofNat 2177026350)⟩:=qAT (n:=40) qBo qAB Tryz.call202 rfl (by kernel_rfl)
theorem qXk:MemoOK Tryz.prog ⟨202,[.int .u64 (.ofNat 173)],.int .u32 (.ofNat 2456956037)⟩:=qAT (n:=40) qBo qAB Tryz.call202 rfl (by kernel_rfl)
theorem qXj:MemoOK Tryz.prog ⟨202,[.int .u64 (.ofNat 179)],.int .u32 (.ofNat 2730485921)⟩:=qAT (n:=40) qBo qAB Tryz.call202 rfl (by kernel_rfl)
theorem qXi:MemoOK Tryz.prog ⟨202,[.int .u64 (.ofNat 181)],.int .u32 (.ofNat 2820302411)⟩:=qAT (n:=40) qBo qAB Tryz.call202 rfl (by kernel_rfl)
theorem qXh:MemoOK Tryz.prog ⟨202,[.int .u64 (.ofNat 191)],.int .u32 (.ofNat 3259730800)⟩:=qAT (n:=40) qBo qAB Tryz.call202 rfl (by kernel_rfl)
end Go.Proofs.YtiafochainjglaaGreatDoor.shaPart
end
