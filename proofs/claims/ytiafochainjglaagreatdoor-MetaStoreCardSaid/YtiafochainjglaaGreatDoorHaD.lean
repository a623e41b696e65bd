/-
  OWN WORK, A PART: an abstract machine for the program's text that the kernel can run, and the proof that it is sound: what it answers is what the program answers; contracts of functions by it. No condition.
-/
import Derived.Test.YtiafochainjglaaGreatDoorHaA
import Derived.KernelRfl
section
namespace Go.Proofs.YtiafochainjglaaGreatDoor.shaPart
open Go.Ax
theorem qXg:MemoOK Tryz.prog ⟨202,[.int .u64 (.ofNat 193)],.int .u32 (.ofNat 3345764771)⟩:=qAT (n:=40) qBo qAB Tryz.call202 rfl (by kernel_rfl)
theorem qXf:MemoOK Tryz.prog ⟨202,[.int .u64 (.ofNat 197)],.int .u32 (.ofNat 3516065817)⟩:=qAT (n:=40) qBo qAB Tryz.call202 rfl (by kernel_rfl)
theorem qXe:MemoOK Tryz.prog ⟨202,[.int .u64 (.ofNat 199)],.int .u32 (.ofNat 3600352804)⟩:=qAT (n:=40) qBo qAB Tryz.call202 rfl (by kernel_rfl)
theorem qXd:MemoOK Tryz.prog ⟨202,[.int .u64 (.ofNat 211)],.int .u32 (.ofNat 4094571909)⟩:=qAT (n:=40) qBo qAB Tryz.call202 rfl (by kernel_rfl)
theorem qXc:MemoOK Tryz.prog ⟨202,[.int .u64 (.ofNat 223)],.int .u32 (.ofNat 275423344)⟩:=qAT (n:=40) qBo qAB Tryz.call202 rfl (by kernel_rfl)
theorem qXb:MemoOK Tryz.prog ⟨202,[.int .u64 (.ofNat 227)],.int .u32 (.ofNat 430227734)⟩:=qAT (n:=40) qBo qAB Tryz.call202 rfl (by kernel_rfl)
theorem qXa:MemoOK Tryz.prog ⟨202,[.int .u64 (.ofNat 229)],.int .u32 (.ofNat 506948616)⟩:=qAT (n:=40) qBo qAB Tryz.call202 rfl (by kernel_rfl)
theorem qX9:MemoOK Tryz.prog ⟨202,[.int .u64 (.ofNat 233)],.int .u32 (.ofNat 659060556)⟩:=qAT (n:=40) qBo qAB Tryz.call202 rfl (by kernel_rfl)
theorem qX8:MemoOK Tryz.prog ⟨202,[.int .u64 (.ofNat 239)],.int .u32 (.ofNat 883997877)⟩:=qAT (n:=40) qBo qAB Tryz.call202 rfl (by kernel_rfl)
theorem qX7:MemoOK Tryz.prog ⟨202,[.int .u64 (.ofNat 241)],.int .u32 (.ofNat 958139571)⟩:=qAT (n:=40) qBo qAB Tryz.call202 rfl (by kernel_rfl)
theorem qX6:MemoOK Tryz.prog ⟨202,[.int .u64 (.ofNat 251)],.int .u32 (.ofNat 1322822218)⟩:=qAT (n:=40) qBo qAB Tryz.call202 rfl (by kernel_rfl)
theorem qX5:MemoOK Tryz.prog ⟨202,[.int .u64 (.ofNat 257)],.int .u32 (.ofNat 1537002063)⟩:=qAT (n:=40) qBo qAB Tryz.call202 rfl (by kernel_rfl)
theorem qX4:MemoOK Tryz.prog ⟨202,[.int .u64 (.ofNat 263)],.int .u32 (.ofNat 1747873779)⟩:=qAT (n:=40) qBo qAB Tryz.call202 rfl (by kernel_rfl)
theorem qX3:MemoOK Tryz.prog ⟨202,[.int .u64 (.ofNat 269)],.int .u32 (.ofNat 1955562222)⟩:=qAT (n:=40) qBo qAB Tryz.call202 rfl (by kernel_rfl)
theorem qX2:MemoOK Tryz.prog ⟨202,[.int .u64 (.ofNat 271)],.int .u32 (.ofNat 2024104815)⟩:=qAT (n:=40) qBo qAB Tryz.call202 rfl (by kernel_rfl)
theorem qX1:MemoOK Tryz.prog ⟨202,[.int .u64 (.ofNat 277)],.int .u32 (.ofNat 2227730452)⟩:=qAT (n:=40) qBo qAB Tryz.call202 rfl (by kernel_rfl)
theorem qX0:MemoOK Tryz.prog ⟨202,[.int .u64 (.ofNat 281)],.int .u32 (.ofNat 2361852424)⟩:=qAT (n:=40) qBo qAB Tryz.call202 rfl (by kernel_rfl)
theorem qXZ:MemoOK Tryz.prog ⟨202,[.int .u64 (.ofNat 283)],.int .u32 (.ofNat 2428436474)⟩:=qAT (n:=40) qBo qAB Tryz.call202 rfl (by kernel_rfl)
theorem qXY:MemoOK Tryz.prog ⟨202,[.int .u64 (.ofNat 293)],.int .u32 (.ofNat 2756734187)⟩:=qAT (n:=40) qBo qAB Tryz.call202 rfl (by kernel_rfl)
theorem qXX:MemoOK Tryz.prog ⟨202,[.int .u64 (.ofNat 307)],.int .u32 (.ofNat 3204031479)⟩:=qAT (n:=40) qBo qAB Tryz.call202 rfl (by kernel_rfl)
theorem qXW:MemoOK Tryz.prog ⟨202,[.int .u64 (.ofNat 311)],.int .u32 (.ofNat 3329325298)⟩:=qAT (n:=40) qBo qAB Tryz.call202 rfl (by kernel_rfl)
end Go.Proofs.YtiafochainjglaaGreatDoor.shaPart
end
