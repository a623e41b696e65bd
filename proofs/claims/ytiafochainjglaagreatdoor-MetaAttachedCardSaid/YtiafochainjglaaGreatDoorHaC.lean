/-
  OWN WORK, A PART: an abstract machine for the program's text that the kernel can run, and the proof that it is sound: what it answers is what the program answers; contracts of functions by it. No condition.
-/
import Derived.Test.YtiafochainjglaaGreatDoorHaA
import Derived.KernelRfl
section
namespace Go.Proofs.YtiafochainjglaaGreatDoor.shaPart
open Go.Ax
theorem cube83:MemoOK Tryz.prog ⟨202,[.int .u64 (.ofNat 83)],.int .u32 (.ofNat 1555081692)⟩:=memo_ok (n:=40) E1ok noSum_ok Tryz.call202 rfl (by kernel_rfl)
theorem cube89:MemoOK Tryz.prog ⟨202,[.int .u64 (.ofNat 89)],.int .u32 (.ofNat 1996064986)⟩:=memo_ok (n:=40) E1ok noSum_ok Tryz.call202 rfl (by kernel_rfl)
theorem cube97:MemoOK Tryz.prog ⟨202,[.int .u64 (.ofNat 97)],.int .u32 (.ofNat 2554220882)⟩:=memo_ok (n:=40) E1ok noSum_ok Tryz.call202 rfl (by kernel_rfl)
theorem cube101:MemoOK Tryz.prog ⟨202,[.int .u64 (.ofNat 101)],.int .u32 (.ofNat 2821834349)⟩:=memo_ok (n:=40) E1ok noSum_ok Tryz.call202 rfl (by kernel_rfl)
theorem cube103:MemoOK Tryz.prog ⟨202,[.int .u64 (.ofNat 103)],.int .u32 (.ofNat 2952996808)⟩:=memo_ok (n:=40) E1ok noSum_ok Tryz.call202 rfl (by kernel_rfl)
theorem cube107:MemoOK Tryz.prog ⟨202,[.int .u64 (.ofNat 107)],.int .u32 (.ofNat 3210313671)⟩:=memo_ok (n:=40) E1ok noSum_ok Tryz.call202 rfl (by kernel_rfl)
theorem cube109:MemoOK Tryz.prog ⟨202,[.int .u64 (.ofNat 109)],.int .u32 (.ofNat 3336571891)⟩:=memo_ok (n:=40) E1ok noSum_ok Tryz.call202 rfl (by kernel_rfl)
theorem cube113:MemoOK Tryz.prog ⟨202,[.int .u64 (.ofNat 113)],.int .u32 (.ofNat 3584528711)⟩:=memo_ok (n:=40) E1ok noSum_ok Tryz.call202 rfl (by kernel_rfl)
theorem cube127:MemoOK Tryz.prog ⟨202,[.int .u64 (.ofNat 127)],.int .u32 (.ofNat 113926993)⟩:=memo_ok (n:=40) E1ok noSum_ok Tryz.call202 rfl (by kernel_rfl)
theorem cube131:MemoOK Tryz.prog ⟨202,[.int .u64 (.ofNat 131)],.int .u32 (.ofNat 338241895)⟩:=memo_ok (n:=40) E1ok noSum_ok Tryz.call202 rfl (by kernel_rfl)
theorem cube137:MemoOK Tryz.prog ⟨202,[.int .u64 (.ofNat 137)],.int .u32 (.ofNat 666307205)⟩:=memo_ok (n:=40) E1ok noSum_ok Tryz.call202 rfl (by kernel_rfl)
theorem cube139:MemoOK Tryz.prog ⟨202,[.int .u64 (.ofNat 139)],.int .u32 (.ofNat 773529912)⟩:=memo_ok (n:=40) E1ok noSum_ok Tryz.call202 rfl (by kernel_rfl)
theorem cube149:MemoOK Tryz.prog ⟨202,[.int .u64 (.ofNat 149)],.int .u32 (.ofNat 1294757372)⟩:=memo_ok (n:=40) E1ok noSum_ok Tryz.call202 rfl (by kernel_rfl)
theorem cube151:MemoOK Tryz.prog ⟨202,[.int .u64 (.ofNat 151)],.int .u32 (.ofNat 1396182291)⟩:=memo_ok (n:=40) E1ok noSum_ok Tryz.call202 rfl (by kernel_rfl)
theorem cube157:MemoOK Tryz.prog ⟨202,[.int .u64 (.ofNat 157)],.int .u32 (.ofNat 1695183700)⟩:=memo_ok (n:=40) E1ok noSum_ok Tryz.call202 rfl (by kernel_rfl)
theorem cube163:MemoOK Tryz.prog ⟨202,[.int .u64 (.ofNat 163)],.int .u32 (.ofNat 1986661051)⟩:=memo_ok (n:=40) E1ok noSum_ok Tryz.call202 rfl (by kernel_rfl)
theorem cube167:MemoOK Tryz.prog ⟨202,[.int .u64 (.ofNat 167)],.int .u32 (.ofNat 2177026350)⟩:=memo_ok (n:=40) E1ok noSum_ok Tryz.call202 rfl (by kernel_rfl)
theorem cube173:MemoOK Tryz.prog ⟨202,[.int .u64 (.ofNat 173)],.int .u32 (.ofNat 2456956037)⟩:=memo_ok (n:=40) E1ok noSum_ok Tryz.call202 rfl (by kernel_rfl)
theorem cube179:MemoOK Tryz.prog ⟨202,[.int .u64 (.ofNat 179)],.int .u32 (.ofNat 2730485921)⟩:=memo_ok (n:=40) E1ok noSum_ok Tryz.call202 rfl (by kernel_rfl)
theorem cube181:MemoOK Tryz.prog ⟨202,[.int .u64 (.ofNat 181)],.int .u32 (.ofNat 2820302411)⟩:=memo_ok (n:=40) E1ok noSum_ok Tryz.call202 rfl (by kernel_rfl)
theorem cube191:MemoOK Tryz.prog ⟨202,[.int .u64 (.ofNat 191)],.int .u32 (.ofNat 3259730800)⟩:=memo_ok (n:=40) E1ok noSum_ok Tryz.call202 rfl (by kernel_rfl)
end Go.Proofs.YtiafochainjglaaGreatDoor.shaPart
end
