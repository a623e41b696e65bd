/-
  OWN WORK, A PART: an abstract machine for the program's text that the kernel can run, and the proof that it is sound: what it answers is what the program answers; contracts of functions by it. No condition.
-/
import Derived.Test.YtcboepooglaogaaGreatDoorXsC
import Derived.Test.YtcboepooglaogaaGreatDoorXsD
section
open Go Go.Ax Go.Proofs
namespace Go.Proofs.YtcboepooglaogaaGreatDoor.spt
set_option linter.unusedVariables false
noncomputable def EC:Env:=envEx Tryz.prog [0,3,4,5,9,22,23,25,26,27,29,31,32,33,62,86,110,112,217] [(3,Tryz.f3),(9,Tryz.f9),(12,Tryz.f12),(14,Tryz.f14),(16,Tryz.f16),(45,Tryz.f45),(48,Tryz.f48),(49,Tryz.f49),(51,Tryz.f51),(52,Tryz.f52),(105,Tryz.f105),(108,Tryz.f108),(109,Tryz.f109)] []
def flC:List (Nat×Fl):=[(45,⟨[7,24,32,35,45,48,51,54,58],[8],[],[]⟩),(105,fl1),(52,fl1),(16,⟨[7,8,15,23,26,27,31,34,35,36,39,40,46,49,50,51,54,55,56,59,60,61,64,65],[9],[],[]⟩),(51,⟨[4,5],[],[],[]⟩),(9,⟨[5,8],[],[],[]⟩),(3,⟨[11,15,17,20,25,29,39,43,51],[35,47],[18,44],[]⟩),(14,fl1),(12,fl1),(108,fl1)]
noncomputable def tT51 (q:CallT) (w:Nat) (s:List Nat):Tr (AV×ASt):=(TM EC (onlyC [53] q) flC fl1 60).call 51 [nI w] M0
noncomputable def vcT51_s0:ASt:=mkSt [] 0
theorem vcT51 (q:CallT) (w:Nat) (s:List Nat) (Q:AV×ASt→Prop) :
 (aConvert EC 3 22 (.int .i64 (.ofNat w)) (vcT51_s0)=some (.int .u64 (.ofNat w),vcT51_s0)∧(M EC (drawA EC) (onlyC [53] q) 56).call 53 [.int .u64 (.ofNat w)] (vcT51_s0)=some (.str s,vcT51_s0)∧Q (.str s,vcT51_s0)) =
 (tT51 q w s).allY (fun r=>Q (r.1,canS [] r.2)) (.v (.int .u64 (.ofNat w),vcT51_s0) (.v (.str s,vcT51_s0) .nil)):=by kernel_rfl
end Go.Proofs.YtcboepooglaogaaGreatDoor.spt
end

section
open Go Go.Ax Go.Proofs
namespace Go.Proofs.YtcboepooglaogaaGreatDoor.spt
set_option linter.unusedVariables false
theorem ECok:Env.Ok Tryz.prog EC:=envEx_ok (xs:=[]) ⟨⟨Tryz.func3,Tryz.call3⟩,⟨Tryz.func9,Tryz.call9⟩,⟨Tryz.func12,Tryz.call12⟩,⟨Tryz.func14,Tryz.call14⟩,⟨Tryz.func16,Tryz.call16⟩,⟨Tryz.func45,Tryz.call45⟩,⟨Tryz.func48,Tryz.call48⟩,⟨Tryz.func49,Tryz.call49⟩,⟨Tryz.func51,Tryz.call51⟩,⟨Tryz.func52,Tryz.call52⟩,⟨Tryz.func105,Tryz.call105⟩,⟨Tryz.func108,Tryz.call108⟩,⟨Tryz.func109,Tryz.call109⟩,trivial⟩ trivial (by kernel_rfl)
open Classical in
noncomputable def tabF (F:Nat→List AV→AV) (keys:List (Nat×List AV)):CallT:=fun f args st=>if (f,args)∈keys then some (F f args,st) else none
theorem tabF_ok {F:Nat→List AV→AV} {keys:List (Nat×List AV)} (h:∀k,k∈keys→∀S,Call1 Tryz.prog k.1 k.2 S (F k.1 k.2,S)):CallsOK Tryz.prog (tabF F keys):=fun B w0 f args st r hr ι w args' hsr hv=>by
 unfold tabF at hr
 split at hr
 ·rename_i hm
  simp only[Option.some.injEq] at hr
  subst hr
  exact h _ hm st B w0 ι w args' hsr hv
 ·cases hr
theorem tabF_at {F:Nat→List AV→AV} {keys:List (Nat×List AV)} {f:Nat} {args:List AV} {st:ASt} {v:AV} (h:(f,args)∈keys) (hv:F f args=v):tabF F keys f args st=some (v,st):=by
 unfold tabF
 rw[if_pos h,hv]
def unU:AV→Nat
 | .int _ (.ofNat n)=>n
 | _=>0
def Fv (f:Nat) (args:List AV):AV :=
 match args with
 | [.agg l]=>.str (blkT (l.map unU))
 | .int _ (.ofNat n)::_=>.str (decL n)
 | _=>.nilFunc
theorem sj_at {S:ASt} {k o:Nat} {c:Cap} {cs:List AV} {rw:Bool} {xs:List (List Nat)} {sep:List Nat} (hS:S.h.get k=some (.cells cs rw)) (ht:takeL cs o xs.length=some (xs.map AV.str)) (hl:(joinL sep xs).length<140737488355328) (hn:xs.length<140737488355328):sumJoin 107 107 [.slice (some (k,o)) xs.length c,.str sep] S=some (.str (joinL sep xs),S):=by
 unfold sumJoin
 simp only[Nat.beq_refl,cond_true,hS,ht,strsA_map]
 rw[blt_t hl,blt_t hn]
 rfl
theorem decL_le {n:Nat} (h:n<18446744073709551616):(decL n).length≤20:=by rw[decL_len];exact nd20 h
section
variable {num w b ak:Nat} {aw:Int} {key nw at_:Nat} {d:Nat→Nat} {S:ASt}
theorem conv51 (h:w<9223372036854775808):aConvert EC 3 22 (.int .i64 (.ofNat w)) S=some (.int .u64 (.ofNat w),S):=by
 have e:aConvert EC 3 22 (.int .i64 (.ofNat w)) S=some (.int .u64 (wrapF .u64 (.ofNat w)),S):=by kernel_rfl
 rw[e,wrapU (by omega)]
theorem t51_at (h:w<9223372036854775808):Call1 Tryz.prog 51 [nI w] S (.str (decL w),S) :=
 Call1.pure (AtMem.of_tm ECok (sum:=onlyC [53] (tabF Fv [(53,[gN w])])) (onlyC_ok (tabF_ok fun k hk S=>by
  simp only[List.mem_cons,List.not_mem_nil,or_false] at hk
  subst hk
  exact text_at (by omega))) (Eq.mp (vcT51 _ w (decL w) (fun r=>r.1=.str (decL w))) ⟨conv51 h,call_at (onlyC_at rfl (tabF_at (by simp[gN]) rfl)),rfl⟩)) (by simp[refsV]) fun a ha=>by
  simp only[List.mem_cons,List.not_mem_nil,or_false] at ha
  subst ha;simp[refsV,nI]
end
end Go.Proofs.YtcboepooglaogaaGreatDoor.spt
end
