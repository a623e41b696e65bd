/-
  OWN WORK, A PART: an abstract machine for the program's text that the kernel can run, and the proof that it is sound: what it answers is what the program answers; contracts of functions by it. No condition.
-/
import Derived.Test.YtiafochainjglaaGreatDoorHaA
import Derived.KernelRfl
section
namespace Go.Proofs.YtiafochainjglaaGreatDoor.shaPart
open Go.Ax
theorem cube193:MemoOK Tryz.prog ⟨202,[.int .u64 (.ofNat 193)],.int .u32 (.ofNat 3345764771)⟩:=memo_ok (n:=40) E1ok noSum_ok Tryz.call202 rfl (by kernel_rfl)
theorem cube197:MemoOK Tryz.prog ⟨202,[.int .u64 (.ofNat 197)],.int .u32 (.ofNat 3516065817)⟩:=memo_ok (n:=40) E1ok noSum_ok Tryz.call202 rfl (by kernel_rfl)
theorem cube199:MemoOK Tryz.prog ⟨202,[.int .u64 (.ofNat 199)],.int .u32 (.ofNat 3600352804)⟩:=memo_ok (n:=40) E1ok noSum_ok Tryz.call202 rfl (by kernel_rfl)
theorem cube211:MemoOK Tryz.prog ⟨202,[.int .u64 (.ofNat 211)],.int .u32 (.ofNat 4094571909)⟩:=memo_ok (n:=40) E1ok noSum_ok Tryz.call202 rfl (by kernel_rfl)
theorem cube223:MemoOK Tryz.prog ⟨202,[.int .u64 (.ofNat 223)],.int .u32 (.ofNat 275423344)⟩:=memo_ok (n:=40) E1ok noSum_ok Tryz.call202 rfl (by kernel_rfl)
theorem cube227:MemoOK Tryz.prog ⟨202,[.int .u64 (.ofNat 227)],.int .u32 (.ofNat 430227734)⟩:=memo_ok (n:=40) E1ok noSum_ok Tryz.call202 rfl (by kernel_rfl)
theorem cube229:MemoOK Tryz.prog ⟨202,[.int .u64 (.ofNat 229)],.int .u32 (.ofNat 506948616)⟩:=memo_ok (n:=40) E1ok noSum_ok Tryz.call202 rfl (by kernel_rfl)
theorem cube233:MemoOK Tryz.prog ⟨202,[.int .u64 (.ofNat 233)],.int .u32 (.ofNat 659060556)⟩:=memo_ok (n:=40) E1ok noSum_ok Tryz.call202 rfl (by kernel_rfl)
theorem cube239:MemoOK Tryz.prog ⟨202,[.int .u64 (.ofNat 239)],.int .u32 (.ofNat 883997877)⟩:=memo_ok (n:=40) E1ok noSum_ok Tryz.call202 rfl (by kernel_rfl)
theorem cube241:MemoOK Tryz.prog ⟨202,[.int .u64 (.ofNat 241)],.int .u32 (.ofNat 958139571)⟩:=memo_ok (n:=40) E1ok noSum_ok Tryz.call202 rfl (by kernel_rfl)
theorem cube251:MemoOK Tryz.prog ⟨202,[.int .u64 (.ofNat 251)],.int .u32 (.ofNat 1322822218)⟩:=memo_ok (n:=40) E1ok noSum_ok Tryz.call202 rfl (by kernel_rfl)
theorem cube257:MemoOK Tryz.prog ⟨202,[.int .u64 (.ofNat 257)],.int .u32 (.ofNat 1537002063)⟩:=memo_ok (n:=40) E1ok noSum_ok Tryz.call202 rfl (by kernel_rfl)
theorem cube263:MemoOK Tryz.prog ⟨202,[.int .u64 (.ofNat 263)],.int .u32 (.ofNat 1747873779)⟩:=memo_ok (n:=40) E1ok noSum_ok Tryz.call202 rfl (by kernel_rfl)
theorem cube269:MemoOK Tryz.prog ⟨202,[.int .u64 (.ofNat 269)],.int .u32 (.ofNat 1955562222)⟩:=memo_ok (n:=40) E1ok noSum_ok Tryz.call202 rfl (by kernel_rfl)
theorem cube271:MemoOK Tryz.prog ⟨202,[.int .u64 (.ofNat 271)],.int .u32 (.ofNat 2024104815)⟩:=memo_ok (n:=40) E1ok noSum_ok Tryz.call202 rfl (by kernel_rfl)
theorem cube277:MemoOK Tryz.prog ⟨202,[.int .u64 (.ofNat 277)],.int .u32 (.ofNat 2227730452)⟩:=memo_ok (n:=40) E1ok noSum_ok Tryz.call202 rfl (by kernel_rfl)
theorem cube281:MemoOK Tryz.prog ⟨202,[.int .u64 (.ofNat 281)],.int .u32 (.ofNat 2361852424)⟩:=memo_ok (n:=40) E1ok noSum_ok Tryz.call202 rfl (by kernel_rfl)
theorem cube283:MemoOK Tryz.prog ⟨202,[.int .u64 (.ofNat 283)],.int .u32 (.ofNat 2428436474)⟩:=memo_ok (n:=40) E1ok noSum_ok Tryz.call202 rfl (by kernel_rfl)
theorem cube293:MemoOK Tryz.prog ⟨202,[.int .u64 (.ofNat 293)],.int .u32 (.ofNat 2756734187)⟩:=memo_ok (n:=40) E1ok noSum_ok Tryz.call202 rfl (by kernel_rfl)
theorem cube307:MemoOK Tryz.prog ⟨202,[.int .u64 (.ofNat 307)],.int .u32 (.ofNat 3204031479)⟩:=memo_ok (n:=40) E1ok noSum_ok Tryz.call202 rfl (by kernel_rfl)
theorem cube311:MemoOK Tryz.prog ⟨202,[.int .u64 (.ofNat 311)],.int .u32 (.ofNat 3329325298)⟩:=memo_ok (n:=40) E1ok noSum_ok Tryz.call202 rfl (by kernel_rfl)
end Go.Proofs.YtiafochainjglaaGreatDoor.shaPart
end
