/-
  OWN WORK, A PART: an abstract machine for the program's text that the kernel can run, and the proof that it is sound: what it answers is what the program answers; contracts of functions by it. No condition.
-/
import Derived.Test.YtiafochainjglaaGreatDoorHaA
import Derived.Test.YtiafochainjglaaGreatDoorHaB
import Derived.Test.YtiafochainjglaaGreatDoorHaC
import Derived.Test.YtiafochainjglaaGreatDoorHaD
import Derived.KernelRfl
section
namespace Go.Proofs.YtiafochainjglaaGreatDoor.shaPart
open Go.Ax
theorem turn2 (x:Int):ans ((M E1 (drawA E1) noSum 40).call 203 [.int .u32 x,.int .i64 (.ofNat 2)] st0)=some (.int .u32 (rotI x 2)):=by kernel_rfl
theorem turn6 (x:Int):ans ((M E1 (drawA E1) noSum 40).call 203 [.int .u32 x,.int .i64 (.ofNat 6)] st0)=some (.int .u32 (rotI x 6)):=by kernel_rfl
theorem turn7 (x:Int):ans ((M E1 (drawA E1) noSum 40).call 203 [.int .u32 x,.int .i64 (.ofNat 7)] st0)=some (.int .u32 (rotI x 7)):=by kernel_rfl
theorem turn11 (x:Int):ans ((M E1 (drawA E1) noSum 40).call 203 [.int .u32 x,.int .i64 (.ofNat 11)] st0)=some (.int .u32 (rotI x 11)):=by kernel_rfl
theorem turn13 (x:Int):ans ((M E1 (drawA E1) noSum 40).call 203 [.int .u32 x,.int .i64 (.ofNat 13)] st0)=some (.int .u32 (rotI x 13)):=by kernel_rfl
theorem turn17 (x:Int):ans ((M E1 (drawA E1) noSum 40).call 203 [.int .u32 x,.int .i64 (.ofNat 17)] st0)=some (.int .u32 (rotI x 17)):=by kernel_rfl
theorem turn18 (x:Int):ans ((M E1 (drawA E1) noSum 40).call 203 [.int .u32 x,.int .i64 (.ofNat 18)] st0)=some (.int .u32 (rotI x 18)):=by kernel_rfl
theorem turn19 (x:Int):ans ((M E1 (drawA E1) noSum 40).call 203 [.int .u32 x,.int .i64 (.ofNat 19)] st0)=some (.int .u32 (rotI x 19)):=by kernel_rfl
theorem turn22 (x:Int):ans ((M E1 (drawA E1) noSum 40).call 203 [.int .u32 x,.int .i64 (.ofNat 22)] st0)=some (.int .u32 (rotI x 22)):=by kernel_rfl
theorem turn25 (x:Int):ans ((M E1 (drawA E1) noSum 40).call 203 [.int .u32 x,.int .i64 (.ofNat 25)] st0)=some (.int .u32 (rotI x 25)):=by kernel_rfl
theorem turn_ok:ExOK Tryz.prog 203 turnA:=by
 refine pure_ex (n:=40) E1ok noSum_ok Tryz.call203 fun args v h=>?_
 unfold turnA at h
 split at h
 rotate_left
 ·simp at h
 rename_i x n
 cases hm:memN n [2,6,7,11,13,17,18,19,22,25]
 ·simp[hm] at h
 simp only[hm,cond_true,Option.some.injEq] at h
 subst h
 refine⟨rfl,rfl,ans_some ?_⟩
 rw[memN_ok] at hm
 have hm:n∈[2,6,7,11,13,17,18,19,22,25]:=by simpa using hm
 simp only[List.mem_cons,List.not_mem_nil,or_false] at hm
 rcases hm with rfl | rfl | rfl | rfl | rfl | rfl | rfl | rfl | rfl | rfl
 ·exact turn2 x
 ·exact turn6 x
 ·exact turn7 x
 ·exact turn11 x
 ·exact turn13 x
 ·exact turn17 x
 ·exact turn18 x
 ·exact turn19 x
 ·exact turn22 x
 ·exact turn25 x
noncomputable def E2:Env:=envEx Tryz.prog (List.range 337) fns [(239,add64A),(203,turnA)]
theorem E2ok:Env.Ok Tryz.prog E2:=envEx_ok fnsOk ⟨add_ok,turn_ok,trivial⟩ mixed
theorem press_run (s:S8) (b:Nat→Nat):ans ((M E2 (drawA E2) noSum 40).call 176 [shaKv,s.av,.slice (some (0,0)) 64 (.atl 64)] (stB ((List.range 64).map b)))=some (pressI s ((List.range 64).map b)).av:=by kernel_rfl
theorem press_ok:CallsOK Tryz.prog (sumPress 176):=sumPress_ok E2ok noSum_ok press_run
noncomputable def cubes:List Memo:=[⟨202,[.int .u64 (.ofNat 2)],.int .u32 (.ofNat 1116352408)⟩,⟨202,[.int .u64 (.ofNat 3)],.int .u32 (.ofNat 1899447441)⟩,⟨202,[.int .u64 (.ofNat 5)],.int .u32 (.ofNat 3049323471)⟩,⟨202,[.int .u64 (.ofNat 7)],.int .u32 (.ofNat 3921009573)⟩,⟨202,[.int .u64 (.ofNat 11)],.int .u32 (.ofNat 961987163)⟩,⟨202,[.int .u64 (.ofNat 13)],.int .u32 (.ofNat 1508970993)⟩,⟨202,[.int .u64 (.ofNat 17)],.int .u32 (.ofNat 2453635748)⟩,⟨202,[.int .u64 (.ofNat 19)],.int .u32 (.ofNat 2870763221)⟩,⟨202,[.int .u64 (.ofNat 23)],.int .u32 (.ofNat 3624381080)⟩,⟨202,[.int .u64 (.ofNat 29)],.int .u32 (.ofNat 310598401)⟩,⟨202,[.int .u64 (.ofNat 31)],.int .u32 (.ofNat 607225278)⟩,⟨202,[.int .u64 (.ofNat 37)],.int .u32 (.ofNat 1426881987)⟩,⟨202,[.int .u64 (.ofNat 41)],.int .u32 (.ofNat 1925078388)⟩,⟨202,[.int .u64 (.ofNat 43)],.int .u32 (.ofNat 2162078206)⟩,⟨202,[.int .u64 (.ofNat 47)],.int .u32 (.ofNat 2614888103)⟩,⟨202,[.int .u64 (.ofNat 53)],.int .u32 (.ofNat 3248222580)⟩,⟨202,[.int .u64 (.ofNat 59)],.int .u32 (.ofNat 3835390401)⟩,⟨202,[.int .u64 (.ofNat 61)],.int .u32 (.ofNat 4022224774)⟩,⟨202,[.int .u64 (.ofNat 67)],.int .u32 (.ofNat 264347078)⟩,⟨202,[.int .u64 (.ofNat 71)],.int .u32 (.ofNat 604807628)⟩,⟨202,[.int .u64 (.ofNat 73)],.int .u32 (.ofNat 770255983)⟩,⟨202,[.int .u64 (.ofNat 79)],.int .u32 (.ofNat 1249150122)⟩,⟨202,[.int .u64 (.ofNat 83)],.int .u32 (.ofNat 1555081692)⟩,⟨202,[.int .u64 (.ofNat 89)],.int .u32 (.ofNat 1996064986)⟩,⟨202,[.int .u64 (.ofNat 97)],.int .u32 (.ofNat 2554220882)⟩,⟨202,[.int .u64 (.ofNat 101)],.int .u32 (.ofNat 2821834349)⟩,⟨202,[.int .u64 (.ofNat 103)],.int .u32 (.ofNat 2952996808)⟩,⟨202,[.int .u64 (.ofNat 107)],.int .u32 (.ofNat 3210313671)⟩,⟨202,[.int .u64 (.ofNat 109)],.int .u32 (.ofNat 3336571891)⟩,⟨202,[.int .u64 (.ofNat 113)],.int .u32 (.ofNat 3584528711)⟩,⟨202,[.int .u64 (.ofNat 127)],.int .u32 (.ofNat 113926993)⟩,⟨202,[.int .u64 (.ofNat 131)],.int .u32 (.ofNat 338241895)⟩,⟨202,[.int .u64 (.ofNat 137)],.int .u32 (.ofNat 666307205)⟩,⟨202,[.int .u64 (.ofNat 139)],.int .u32 (.ofNat 773529912)⟩,⟨202,[.int .u64 (.ofNat 149)],.int .u32 (.ofNat 1294757372)⟩,⟨202,[.int .u64 (.ofNat 151)],.int .u32 (.ofNat 1396182291)⟩,⟨202,[.int .u64 (.ofNat 157)],.int .u32 (.ofNat 1695183700)⟩,⟨202,[.int .u64 (.ofNat 163)],.int .u32 (.ofNat 1986661051)⟩,⟨202,[.int .u64 (.ofNat 167)],.int .u32 (.ofNat 2177026350)⟩,⟨202,[.int .u64 (.ofNat 173)],.int .u32 (.ofNat 2456956037)⟩,⟨202,[.int .u64 (.ofNat 179)],.int .u32 (.ofNat 2730485921)⟩,⟨202,[.int .u64 (.ofNat 181)],.int .u32 (.ofNat 2820302411)⟩,⟨202,[.int .u64 (.ofNat 191)],.int .u32 (.ofNat 3259730800)⟩,⟨202,[.int .u64 (.ofNat 193)],.int .u32 (.ofNat 3345764771)⟩,⟨202,[.int .u64 (.ofNat 197)],.int .u32 (.ofNat 3516065817)⟩,⟨202,[.int .u64 (.ofNat 199)],.int .u32 (.ofNat 3600352804)⟩,⟨202,[.int .u64 (.ofNat 211)],.int .u32 (.ofNat 4094571909)⟩,⟨202,[.int .u64 (.ofNat 223)],.int .u32 (.ofNat 275423344)⟩,⟨202,[.int .u64 (.ofNat 227)],.int .u32 (.ofNat 430227734)⟩,⟨202,[.int .u64 (.ofNat 229)],.int .u32 (.ofNat 506948616)⟩,⟨202,[.int .u64 (.ofNat 233)],.int .u32 (.ofNat 659060556)⟩,⟨202,[.int .u64 (.ofNat 239)],.int .u32 (.ofNat 883997877)⟩,⟨202,[.int .u64 (.ofNat 241)],.int .u32 (.ofNat 958139571)⟩,⟨202,[.int .u64 (.ofNat 251)],.int .u32 (.ofNat 1322822218)⟩,⟨202,[.int .u64 (.ofNat 257)],.int .u32 (.ofNat 1537002063)⟩,⟨202,[.int .u64 (.ofNat 263)],.int .u32 (.ofNat 1747873779)⟩,⟨202,[.int .u64 (.ofNat 269)],.int .u32 (.ofNat 1955562222)⟩,⟨202,[.int .u64 (.ofNat 271)],.int .u32 (.ofNat 2024104815)⟩,⟨202,[.int .u64 (.ofNat 277)],.int .u32 (.ofNat 2227730452)⟩,⟨202,[.int .u64 (.ofNat 281)],.int .u32 (.ofNat 2361852424)⟩,⟨202,[.int .u64 (.ofNat 283)],.int .u32 (.ofNat 2428436474)⟩,⟨202,[.int .u64 (.ofNat 293)],.int .u32 (.ofNat 2756734187)⟩,⟨202,[.int .u64 (.ofNat 307)],.int .u32 (.ofNat 3204031479)⟩,⟨202,[.int .u64 (.ofNat 311)],.int .u32 (.ofNat 3329325298)⟩]
theorem cubesOk:AllMemo Tryz.prog cubes:=⟨cube2,cube3,cube5,cube7,cube11,cube13,cube17,cube19,cube23,cube29,cube31,cube37,cube41,cube43,cube47,cube53,cube59,cube61,cube67,cube71,cube73,cube79,cube83,cube89,cube97,cube101,cube103,cube107,cube109,cube113,cube127,cube131,cube137,cube139,cube149,cube151,cube157,cube163,cube167,cube173,cube179,cube181,cube191,cube193,cube197,cube199,cube211,cube223,cube227,cube229,cube233,cube239,cube241,cube251,cube257,cube263,cube269,cube271,cube277,cube281,cube283,cube293,cube307,cube311,trivial⟩
theorem consts:MemoOK Tryz.prog ⟨175,[],shaKv⟩:=memo_ok (n:=60) E1ok (sumC_ok (l:=_::cubes) ⟨primes_,cubesOk⟩) Tryz.call175 (by kernel_rfl) (by kernel_rfl)
end Go.Proofs.YtiafochainjglaaGreatDoor.shaPart
end
