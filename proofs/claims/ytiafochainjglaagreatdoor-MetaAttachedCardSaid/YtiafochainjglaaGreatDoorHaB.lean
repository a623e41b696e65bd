/-
  OWN WORK, A PART: an abstract machine for the program's text that the kernel can run, and the proof that it is sound: what it answers is what the program answers; contracts of functions by it. No condition.
-/
import Derived.Test.YtiafochainjglaaGreatDoorHaA
import Derived.KernelRfl
section
namespace Go.Proofs.YtiafochainjglaaGreatDoor.shaPart
open Go.Ax
theorem cube2:MemoOK Tryz.prog ⟨202,[.int .u64 (.ofNat 2)],.int .u32 (.ofNat 1116352408)⟩:=memo_ok (n:=40) E1ok noSum_ok Tryz.call202 rfl (by kernel_rfl)
theorem cube3:MemoOK Tryz.prog ⟨202,[.int .u64 (.ofNat 3)],.int .u32 (.ofNat 1899447441)⟩:=memo_ok (n:=40) E1ok noSum_ok Tryz.call202 rfl (by kernel_rfl)
theorem cube5:MemoOK Tryz.prog ⟨202,[.int .u64 (.ofNat 5)],.int .u32 (.ofNat 3049323471)⟩:=memo_ok (n:=40) E1ok noSum_ok Tryz.call202 rfl (by kernel_rfl)
theorem cube7:MemoOK Tryz.prog ⟨202,[.int .u64 (.ofNat 7)],.int .u32 (.ofNat 3921009573)⟩:=memo_ok (n:=40) E1ok noSum_ok Tryz.call202 rfl (by kernel_rfl)
theorem cube11:MemoOK Tryz.prog ⟨202,[.int .u64 (.ofNat 11)],.int .u32 (.ofNat 961987163)⟩:=memo_ok (n:=40) E1ok noSum_ok Tryz.call202 rfl (by kernel_rfl)
theorem cube13:MemoOK Tryz.prog ⟨202,[.int .u64 (.ofNat 13)],.int .u32 (.ofNat 1508970993)⟩:=memo_ok (n:=40) E1ok noSum_ok Tryz.call202 rfl (by kernel_rfl)
theorem cube17:MemoOK Tryz.prog ⟨202,[.int .u64 (.ofNat 17)],.int .u32 (.ofNat 2453635748)⟩:=memo_ok (n:=40) E1ok noSum_ok Tryz.call202 rfl (by kernel_rfl)
theorem cube19:MemoOK Tryz.prog ⟨202,[.int .u64 (.ofNat 19)],.int .u32 (.ofNat 2870763221)⟩:=memo_ok (n:=40) E1ok noSum_ok Tryz.call202 rfl (by kernel_rfl)
theorem cube23:MemoOK Tryz.prog ⟨202,[.int .u64 (.ofNat 23)],.int .u32 (.ofNat 3624381080)⟩:=memo_ok (n:=40) E1ok noSum_ok Tryz.call202 rfl (by kernel_rfl)
theorem cube29:MemoOK Tryz.prog ⟨202,[.int .u64 (.ofNat 29)],.int .u32 (.ofNat 310598401)⟩:=memo_ok (n:=40) E1ok noSum_ok Tryz.call202 rfl (by kernel_rfl)
theorem cube31:MemoOK Tryz.prog ⟨202,[.int .u64 (.ofNat 31)],.int .u32 (.ofNat 607225278)⟩:=memo_ok (n:=40) E1ok noSum_ok Tryz.call202 rfl (by kernel_rfl)
theorem cube37:MemoOK Tryz.prog ⟨202,[.int .u64 (.ofNat 37)],.int .u32 (.ofNat 1426881987)⟩:=memo_ok (n:=40) E1ok noSum_ok Tryz.call202 rfl (by kernel_rfl)
theorem cube41:MemoOK Tryz.prog ⟨202,[.int .u64 (.ofNat 41)],.int .u32 (.ofNat 1925078388)⟩:=memo_ok (n:=40) E1ok noSum_ok Tryz.call202 rfl (by kernel_rfl)
theorem cube43:MemoOK Tryz.prog ⟨202,[.int .u64 (.ofNat 43)],.int .u32 (.ofNat 2162078206)⟩:=memo_ok (n:=40) E1ok noSum_ok Tryz.call202 rfl (by kernel_rfl)
theorem cube47:MemoOK Tryz.prog ⟨202,[.int .u64 (.ofNat 47)],.int .u32 (.ofNat 2614888103)⟩:=memo_ok (n:=40) E1ok noSum_ok Tryz.call202 rfl (by kernel_rfl)
theorem cube53:MemoOK Tryz.prog ⟨202,[.int .u64 (.ofNat 53)],.int .u32 (.ofNat 3248222580)⟩:=memo_ok (n:=40) E1ok noSum_ok Tryz.call202 rfl (by kernel_rfl)
theorem cube59:MemoOK Tryz.prog ⟨202,[.int .u64 (.ofNat 59)],.int .u32 (.ofNat 3835390401)⟩:=memo_ok (n:=40) E1ok noSum_ok Tryz.call202 rfl (by kernel_rfl)
theorem cube61:MemoOK Tryz.prog ⟨202,[.int .u64 (.ofNat 61)],.int .u32 (.ofNat 4022224774)⟩:=memo_ok (n:=40) E1ok noSum_ok Tryz.call202 rfl (by kernel_rfl)
theorem cube67:MemoOK Tryz.prog ⟨202,[.int .u64 (.ofNat 67)],.int .u32 (.ofNat 264347078)⟩:=memo_ok (n:=40) E1ok noSum_ok Tryz.call202 rfl (by kernel_rfl)
theorem cube71:MemoOK Tryz.prog ⟨202,[.int .u64 (.ofNat 71)],.int .u32 (.ofNat 604807628)⟩:=memo_ok (n:=40) E1ok noSum_ok Tryz.call202 rfl (by kernel_rfl)
theorem cube73:MemoOK Tryz.prog ⟨202,[.int .u64 (.ofNat 73)],.int .u32 (.ofNat 770255983)⟩:=memo_ok (n:=40) E1ok noSum_ok Tryz.call202 rfl (by kernel_rfl)
theorem cube79:MemoOK Tryz.prog ⟨202,[.int .u64 (.ofNat 79)],.int .u32 (.ofNat 1249150122)⟩:=memo_ok (n:=40) E1ok noSum_ok Tryz.call202 rfl (by kernel_rfl)
end Go.Proofs.YtiafochainjglaaGreatDoor.shaPart
end
