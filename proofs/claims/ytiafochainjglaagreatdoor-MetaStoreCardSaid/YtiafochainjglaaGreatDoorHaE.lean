/-
  OWN WORK, A PART: an abstract machine for the program's text that the kernel can run, and the proof that it is sound: what it answers is what the program answers; contracts of functions by it. No condition.
-/
import Derived.Test.YtiafochainjglaaGreatDoorHaA
import Derived.Test.YtiafochainjglaaGreatDoorHaB
import Derived.Test.YtiafochainjglaaGreatDoorHaC
import Derived.Test.YtiafochainjglaaGreatDoorHaD
import Derived.KernelRfl
section
namespace Go.Proofs.YtiafochainjglaaGreatDoor.shaPart
open Go.Ax
theorem q1i (x:Int):ans ((M E1 (drawA E1) qAa 40).call 203 [.int .u32 x,.int .i64 (.ofNat 2)] st0)=some (.int .u32 (qH7 x 2)):=by kernel_rfl
theorem q1h (x:Int):ans ((M E1 (drawA E1) qAa 40).call 203 [.int .u32 x,.int .i64 (.ofNat 6)] st0)=some (.int .u32 (qH7 x 6)):=by kernel_rfl
theorem qVr (x:Int):ans ((M E1 (drawA E1) qAa 40).call 203 [.int .u32 x,.int .i64 (.ofNat 7)] st0)=some (.int .u32 (qH7 x 7)):=by kernel_rfl
theorem qYo (x:Int):ans ((M E1 (drawA E1) qAa 40).call 203 [.int .u32 x,.int .i64 (.ofNat 11)] st0)=some (.int .u32 (qH7 x 11)):=by kernel_rfl
theorem qYn (x:Int):ans ((M E1 (drawA E1) qAa 40).call 203 [.int .u32 x,.int .i64 (.ofNat 13)] st0)=some (.int .u32 (qH7 x 13)):=by kernel_rfl
theorem qYm (x:Int):ans ((M E1 (drawA E1) qAa 40).call 203 [.int .u32 x,.int .i64 (.ofNat 17)] st0)=some (.int .u32 (qH7 x 17)):=by kernel_rfl
theorem qYl (x:Int):ans ((M E1 (drawA E1) qAa 40).call 203 [.int .u32 x,.int .i64 (.ofNat 18)] st0)=some (.int .u32 (qH7 x 18)):=by kernel_rfl
theorem qYk (x:Int):ans ((M E1 (drawA E1) qAa 40).call 203 [.int .u32 x,.int .i64 (.ofNat 19)] st0)=some (.int .u32 (qH7 x 19)):=by kernel_rfl
theorem qYj (x:Int):ans ((M E1 (drawA E1) qAa 40).call 203 [.int .u32 x,.int .i64 (.ofNat 22)] st0)=some (.int .u32 (qH7 x 22)):=by kernel_rfl
theorem qYi (x:Int):ans ((M E1 (drawA E1) qAa 40).call 203 [.int .u32 x,.int .i64 (.ofNat 25)] st0)=some (.int .u32 (qH7 x 25)):=by kernel_rfl
theorem qVp:ExOK Tryz.prog 203 qVq:=by
 refine qQI (n:=40) qBo qAB Tryz.call203 fun args v h=>?_;unfold qVq at h
 split at h
 rotate_left
 ·simp at h
 rename_i x n;cases hm:qCY n [2,6,7,11,13,17,18,19,22,25]
 ·simp[hm] at h
 simp only[hm,cond_true,qz1] at h;subst h;refine⟨rfl,rfl,qHO ?_⟩;rw[qEb] at hm;have hm:n∈[2,6,7,11,13,17,18,19,22,25]:=by simpa using hm
 simp only[List.mem_cons,List.not_mem_nil,or_false] at hm;rcases hm with rfl | rfl | rfl | rfl | rfl | rfl | rfl | rfl | rfl | rfl
 ·exact q1i x
 ·exact q1h x
 ·exact qVr x
 ·exact qYo x
 ·exact qYn x
 ·exact qYm x
 ·exact qYl x
 ·exact qYk x
 ·exact qYj x
 ·exact qYi x
noncomputable def E2:Env:=envEx Tryz.prog (List.range 337) fns [(239,add64A),(203,qVq)]
theorem E2ok:Env.Ok Tryz.prog E2:=envEx_ok qTd ⟨add_ok,qVp,trivial⟩ mixed
theorem qQK (s:S8) (b:Nat→Nat):ans ((M E2 (drawA E2) qAa 40).call 176 [qGz,s.av,.slice (some (0,0)) 64 (.atl 64)] (stB ((List.range 64).map b)))=some (qDF s ((List.range 64).map b)).av:=by kernel_rfl
theorem qNH:CallsOK Tryz.prog (qEw 176):=qLm E2ok qAB qQK
noncomputable def q0L:List Memo:=[⟨202,[.int .u64 (.ofNat 2)],.int .u32 (.ofNat 1116352408)⟩,⟨202,[.int .u64 (.ofNat 3)],.int .u32 (.ofNat 1899447441)⟩,⟨202,[.int .u64 (.ofNat 5)],.int .u32 (.ofNat 3049323471)⟩,⟨202,[.int .u64 (.ofNat 7)],.int .u32 (.ofNat 3921009573)⟩,⟨202,[.int .u64 (.ofNat 11)],.int .u32 (.ofNat 961987163)⟩,⟨202,[.int .u64 (.ofNat 13)],.int .u32 (.ofNat 1508970993)⟩,⟨202,[.int .u64 (.ofNat 17)],.int .u32 (.ofNat 2453635748)⟩,⟨202,[.int .u64 (.ofNat 19)],.int .u32 (.ofNat 2870763221)⟩,⟨202,[.int .u64 (.ofNat 23)],.int .u32 (.ofNat 3624381080)⟩,⟨202,[.int .u64 (.ofNat 29)],.int .u32 (.ofNat 310598401)⟩,⟨202,[.int .u64 (.ofNat 31)],.int .u32 (.ofNat 607225278)⟩,⟨202,[.int .u64 (.ofNat 37)],.int .u32 (.ofNat 1426881987)⟩,⟨202,[.int .u64 (.ofNat 41)],.int .u32 (.ofNat 1925078388)⟩,⟨202,[.int .u64 (.ofNat 43)],.int .u32 (.ofNat 2162078206)⟩,⟨202,[.int .u64 (.ofNat 47)],.int .u32 (.ofNat 2614888103)⟩,⟨202,[.int .u64 (.ofNat 53)],.int .u32 (.ofNat 3248222580)⟩,⟨202,[.int .u64 (.ofNat 59)],.int .u32 (.ofNat 3835390401)⟩,⟨202,[.int .u64 (.ofNat 61)],.int .u32 (.ofNat 4022224774)⟩,⟨202,[.int .u64 (.ofNat 67)],.int .u32 (.ofNat 264347078)⟩,⟨202,[.int .u64 (.ofNat 71)],.int .u32 (.ofNat 604807628)⟩,⟨202,[.int .u64 (.ofNat 73)],.int .u32 (.ofNat 770255983)⟩,⟨202,[.int .u64 (.ofNat 79)],.int .u32 (.ofNat 1249150122)⟩,⟨202,[.int .u64 (.ofNat 83)],.int .u32 (.ofNat 1555081692)⟩,⟨202,[.int .u64 (.ofNat 89)],.int .u32 (.ofNat 1996064986)⟩,⟨202,[.int .u64 (.ofNat 97)],.int .u32 (.ofNat 2554220882)⟩,⟨202,[.int .u64 (.ofNat 101)],.int .u32 (.ofNat 2821834349)⟩,⟨202,[.int .u64 (.ofNat 103)],.int .u32 (.ofNat 2952996808)⟩,⟨202,[.int .u64 (.ofNat 107)],.int .u32 (.ofNat 3210313671)⟩,⟨202,[.int .u64 (.ofNat 109)],.int .u32 (.ofNat 3336571891)⟩,⟨202,[.int .u64 (.ofNat 113)],.int .u32 (.ofNat 3584528711)⟩,⟨202,[.int .u64 (.ofNat 127)],.int .u32 (.ofNat 113926993)⟩,⟨202,[.int .u64 (.ofNat 131)],.int .u32 (.ofNat 338241895)⟩,⟨202,[.int .u64 (.ofNat 137)],.int .u32 (.ofNat 666307205)⟩,⟨202,[.int .u64 (.ofNat 139)],.int .u32 (.ofNat 773529912)⟩,⟨202,[.int .u64 (.ofNat 149)],.int .u32 (.ofNat 1294757372)⟩,⟨202,[.int .u64 (.ofNat 151)],.int .u32 (.ofNat 1396182291)⟩,⟨202,[.int .u64 (.ofNat 157)],.int .u32 (.ofNat 1695183700)⟩,⟨202,[.int .u64 (.ofNat 163)],.int .u32 (.ofNat 1986661051)⟩,⟨202,[.int .u64 (.ofNat 167)],.int .u32 (.ofNat 2177026350)⟩,⟨202,[.int .u64 (.ofNat 173)],.int .u32 (.ofNat 2456956037)⟩,⟨202,[.int .u64 (.ofNat 179)],.int .u32 (.ofNat 2730485921)⟩,⟨202,[.int .u64 (.ofNat 181)],.int .u32 (.ofNat 2820302411)⟩,⟨202,[.int .u64 (.ofNat 191)],.int .u32 (.ofNat 3259730800)⟩,⟨202,[.int .u64 (.ofNat 193)],.int .u32 (.ofNat 3345764771)⟩,⟨202,[.int .u64 (.ofNat 197)],.int .u32 (.ofNat 3516065817)⟩,⟨202,[.int .u64 (.ofNat 199)],.int .u32 (.ofNat 3600352804)⟩,⟨202,[.int .u64 (.ofNat 211)],.int .u32 (.ofNat 4094571909)⟩,⟨202,[.int .u64 (.ofNat 223)],.int .u32 (.ofNat 275423344)⟩,⟨202,[.int .u64 (.ofNat 227)],.int .u32 (.ofNat 430227734)⟩,⟨202,[.int .u64 (.ofNat 229)],.int .u32 (.ofNat 506948616)⟩,⟨202,[.int .u64 (.ofNat 233)],.int .u32 (.ofNat 659060556)⟩,⟨202,[.int .u64 (.ofNat 239)],.int .u32 (.ofNat 883997877)⟩,⟨202,[.int .u64 (.ofNat 241)],.int .u32 (.ofNat 958139571)⟩,⟨202,[.int .u64 (.ofNat 251)],.int .u32 (.ofNat 1322822218)⟩,⟨202,[.int .u64 (.ofNat 257)],.int .u32 (.ofNat 1537002063)⟩,⟨202,[.int .u64 (.ofNat 263)],.int .u32 (.ofNat 1747873779)⟩,⟨202,[.int .u64 (.ofNat 269)],.int .u32 (.ofNat 1955562222)⟩,⟨202,[.int .u64 (.ofNat 271)],.int .u32 (.ofNat 2024104815)⟩,⟨202,[.int .u64 (.ofNat 277)],.int .u32 (.ofNat 2227730452)⟩,⟨202,[.int .u64 (.ofNat 281)],.int .u32 (.ofNat 2361852424)⟩,⟨202,[.int .u64 (.ofNat 283)],.int .u32 (.ofNat 2428436474)⟩,⟨202,[.int .u64 (.ofNat 293)],.int .u32 (.ofNat 2756734187)⟩,⟨202,[.int .u64 (.ofNat 307)],.int .u32 (.ofNat 3204031479)⟩,⟨202,[.int .u64 (.ofNat 311)],.int .u32 (.ofNat 3329325298)⟩]
theorem qXV:qMf Tryz.prog q0L:=⟨q2v,q2u,q2t,q2s,q06,q05,q04,q03,q02,q01,q00,q0Z,q0Y,q0X,q0W,q0V,q0U,q0T,q0S,q0R,q0Q,q0P,q0O,q0N,q0M,qXy,qXx,qXw,qXv,qXu,qXt,qXs,qXr,qXq,qXp,qXo,qXn,qXm,qXl,qXk,qXj,qXi,qXh,qXg,qXf,qXe,qXd,qXc,qXb,qXa,qX9,qX8,qX7,qX6,qX5,qX4,qX3,qX2,qX1,qX0,qXZ,qXY,qXX,qXW,trivial⟩
theorem qVT:MemoOK Tryz.prog ⟨175,[],qGz⟩:=qAT (n:=60) qBo (qHZ (l:=_::q0L) ⟨qWZ,qXV⟩) Tryz.call175 (by kernel_rfl) (by kernel_rfl)
end Go.Proofs.YtiafochainjglaaGreatDoor.shaPart
end
