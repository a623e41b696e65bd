/-
  OWN WORK, A PART: an abstract machine for the program's text that the kernel can run, and the proof that it is sound: what it answers is what the program answers; contracts of functions by it. No condition.
-/
import Derived.Test.YtiafochainjglaaGreatDoorHaA
import Derived.KernelRfl
section
namespace Go.Proofs.YtiafochainjglaaGreatDoor.shaPart
open Go.Ax
theorem q2v:MemoOK Tryz.prog ⟨202,[.int .u64 (.ofNat 2)],.int .u32 (.ofNat 1116352408)⟩:=qAT (n:=40) qBo qAB Tryz.call202 rfl (by kernel_rfl)
theorem q2u:MemoOK Tryz.prog ⟨202,[.int .u64 (.ofNat 3)],.int .u32 (.ofNat 1899447441)⟩:=qAT (n:=40) qBo qAB Tryz.call202 rfl (by kernel_rfl)
theorem q2t:MemoOK Tryz.prog ⟨202,[.int .u64 (.ofNat 5)],.int .u32 (.ofNat 3049323471)⟩:=qAT (n:=40) qBo qAB Tryz.call202 rfl (by kernel_rfl)
theorem q2s:MemoOK Tryz.prog ⟨202,[.int .u64 (.ofNat 7)],.int .u32 (.ofNat 3921009573)⟩:=qAT (n:=40) qBo qAB Tryz.call202 rfl (by kernel_rfl)
theorem q06:MemoOK Tryz.prog ⟨202,[.int .u64 (.ofNat 11)],.int .u32 (.ofNat 961987163)⟩:=qAT (n:=40) qBo qAB Tryz.call202 rfl (by kernel_rfl)
theorem q05:MemoOK Tryz.prog ⟨202,[.int .u64 (.ofNat 13)],.int .u32 (.ofNat 1508970993)⟩:=qAT (n:=40) qBo qAB Tryz.call202 rfl (by kernel_rfl)
theorem q04:MemoOK Tryz.prog ⟨202,[.int .u64 (.ofNat 17)],.int .u32 (.ofNat 2453635748)⟩:=qAT (n:=40) qBo qAB Tryz.call202 rfl (by kernel_rfl)
theorem q03:MemoOK Tryz.prog ⟨202,[.int .u64 (.ofNat 19)],.int .u32 (.ofNat 2870763221)⟩:=qAT (n:=40) qBo qAB Tryz.call202 rfl (by kernel_rfl)
theorem q02:MemoOK Tryz.prog ⟨202,[.int .u64 (.ofNat 23)],.int .u32 (.ofNat 3624381080)⟩:=qAT (n:=40) qBo qAB Tryz.call202 rfl (by kernel_rfl)
theorem q01:MemoOK Tryz.prog ⟨202,[.int .u64 (.ofNat 29)],.int .u32 (.ofNat 310598401)⟩:=qAT (n:=40) qBo qAB Tryz.call202 rfl (by kernel_rfl)
theorem q00:MemoOK Tryz.prog ⟨202,[.int .u64 (.ofNat 31)],.int .u32 (.ofNat 607225278)⟩:=qAT (n:=40) qBo qAB Tryz.call202 rfl (by kernel_rfl)
theorem q0Z:MemoOK Tryz.prog ⟨202,[.int .u64 (.ofNat 37)],.int .u32 (.ofNat 1426881987)⟩:=qAT (n:=40) qBo qAB Tryz.call202 rfl (by kernel_rfl)
theorem q0Y:MemoOK Tryz.prog ⟨202,[.int .u64 (.ofNat 41)],.int .u32 (.ofNat 1925078388)⟩:=qAT (n:=40) qBo qAB Tryz.call202 rfl (by kernel_rfl)
theorem q0X:MemoOK Tryz.prog ⟨202,[.int .u64 (.ofNat 43)],.int .u32 (.ofNat 2162078206)⟩:=qAT (n:=40) qBo qAB Tryz.call202 rfl (by kernel_rfl)
theorem q0W:MemoOK Tryz.prog ⟨202,[.int .u64 (.ofNat 47)],.int .u32 (.ofNat 2614888103)⟩:=qAT (n:=40) qBo qAB Tryz.call202 rfl (by kernel_rfl)
theorem q0V:MemoOK Tryz.prog ⟨202,[.int .u64 (.ofNat 53)],.int .u32 (.ofNat 3248222580)⟩:=qAT (n:=40) qBo qAB Tryz.call202 rfl (by kernel_rfl)
theorem q0U:MemoOK Tryz.prog ⟨202,[.int .u64 (.ofNat 59)],.int .u32 (.ofNat 3835390401)⟩:=qAT (n:=40) qBo qAB Tryz.call202 rfl (by kernel_rfl)
theorem q0T:MemoOK Tryz.prog ⟨202,[.int .u64 (.ofNat 61)],.int .u32 (.ofNat 4022224774)⟩:=qAT (n:=40) qBo qAB Tryz.call202 rfl (by kernel_rfl)
theorem q0S:MemoOK Tryz.prog ⟨202,[.int .u64 (.ofNat 67)],.int .u32 (.ofNat 264347078)⟩:=qAT (n:=40) qBo qAB Tryz.call202 rfl (by kernel_rfl)
theorem q0R:MemoOK Tryz.prog ⟨202,[.int .u64 (.ofNat 71)],.int .u32 (.ofNat 604807628)⟩:=qAT (n:=40) qBo qAB Tryz.call202 rfl (by kernel_rfl)
theorem q0Q:MemoOK Tryz.prog ⟨202,[.int .u64 (.ofNat 73)],.int .u32 (.ofNat 770255983)⟩:=qAT (n:=40) qBo qAB Tryz.call202 rfl (by kernel_rfl)
theorem q0P:MemoOK Tryz.prog ⟨202,[.int .u64 (.ofNat 79)],.int .u32 (.ofNat 1249150122)⟩:=qAT (n:=40) qBo qAB Tryz.call202 rfl (by kernel_rfl)
end Go.Proofs.YtiafochainjglaaGreatDoor.shaPart
end
