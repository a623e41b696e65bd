/-
  OWN WORK, A PART: an abstract machine for the program's text that the kernel can run, and the proof that it is sound: what it answers is what the program answers; contracts of functions by it. No condition.
-/
import Derived.Test.YtiafochainjglaaGreatDoorRows
import Derived.Test.YtiafochainjglaaGreatDoorWaD
import Derived.KernelRfl
section
namespace Go.Proofs.YtiafochainjglaaGreatDoor.shaPart
open Go.Ax
def us (l:List Nat):List AV:=l.map fun n=>.int .u64 (.ofNat n)
abbrev u6 (n:Nat):AV:=.int .u64 (.ofNat n)
abbrev i6 (n:Nat):AV:=.int .i64 (.ofNat n)
theorem mixed:Tryz.prog.follows .mixedOrders=true:=by kernel_rfl
noncomputable def fns:List (Nat×Func):=[(175,Tryz.f175),(176,Tryz.f176),(201,Tryz.f201),(202,Tryz.f202),(203,Tryz.f203),(237,Tryz.f237),(238,Tryz.f238),(240,Tryz.f240)]
theorem qTd:AllFn Tryz.prog fns :=
 ⟨⟨Tryz.func175,Tryz.call175⟩,⟨Tryz.func176,Tryz.call176⟩,⟨Tryz.func201,Tryz.call201⟩,⟨Tryz.func202,Tryz.call202⟩,⟨Tryz.func203,Tryz.call203⟩,⟨Tryz.func237,Tryz.call237⟩,⟨Tryz.func238,Tryz.call238⟩,⟨Tryz.func240,Tryz.call240⟩,trivial⟩
theorem add_ok:ExOK Tryz.prog 239 add64A :=
 qUF (run_callFunc_extern Tryz.func239 (by kernel_rfl) (by kernel_rfl) (by kernel_rfl) (e:=add64Entry) (by kernel_rfl))
noncomputable def E1:Env:=envEx Tryz.prog (List.range 337) fns [(239,add64A)]
theorem qBo:Env.Ok Tryz.prog E1:=envEx_ok qTd ⟨add_ok,trivial⟩ mixed
noncomputable def pC:Code:=Option.getD Tryz.f201.body .skip
noncomputable def pR0:Code:=seqL pC
noncomputable def pR1:Code:=seqL (seqR pC)
noncomputable def pR2:Code:=seqL (seqL (seqR (seqR pC)))
noncomputable def pB:Code:=qSX (qSY (seqR (seqL (seqR (seqR pC)))))
noncomputable def pRS:Code:=seqR (seqR (seqR pC))
theorem qZS:Tryz.f201.body=some (.seq pR0 (.seq pR1 (.seq (.seq pR2 (.block 0 (.loop pB))) pRS))):=by kernel_rfl
noncomputable def pF0:AFr:=(qSW [(0,.ptr (some (0,0)))] 32 [])
noncomputable def pS0:ASt:=(mkSt [(0,.cells (us [0,0,0,0,0,0,0,0,0,0,0,0,0,0,0,0,0,0,0,0,0,0,0,0,0,0,0,0,0,0,0,0,0,0,0,0,0,0,0,0,0,0,0,0,0,0,0,0,0,0,0,0,0,0,0,0,0,0,0,0,0,0,0,0]) true)] 1)
noncomputable def pF1:AFr:=(qSW [(0,.ptr (some (0,0))),(1,i6 0)] 32 [])
noncomputable def pS1:ASt:=(mkSt [(0,.cells (us [0,0,0,0,0,0,0,0,0,0,0,0,0,0,0,0,0,0,0,0,0,0,0,0,0,0,0,0,0,0,0,0,0,0,0,0,0,0,0,0,0,0,0,0,0,0,0,0,0,0,0,0,0,0,0,0,0,0,0,0,0,0,0,0]) true)] 1)
noncomputable def pF2:AFr:=(qSW [(0,.ptr (some (0,0))),(1,i6 0),(2,u6 2)] 32 [])
noncomputable def pS2:ASt:=(mkSt [(0,.cells (us [0,0,0,0,0,0,0,0,0,0,0,0,0,0,0,0,0,0,0,0,0,0,0,0,0,0,0,0,0,0,0,0,0,0,0,0,0,0,0,0,0,0,0,0,0,0,0,0,0,0,0,0,0,0,0,0,0,0,0,0,0,0,0,0]) true)] 1)
noncomputable def pF3:AFr:=(qSW [(0,.ptr (some (0,0))),(1,i6 26),(2,u6 102),(3,.bool true),(5,u6 97),(6,i6 25),(7,.bool true),(8,u6 101),(9,u6 102),(10,i6 25),(11,.slice (some (0,0)) 25 (.known 64)),(12,i6 25),(13,i6 25),(14,.bool false),(15,.ptr (some (0,24))),(16,u6 97),(17,.bool true),(18,.bool true),(19,u6 101),(20,u6 97),(21,u6 4),(22,.bool true),(23,.bool true),(24,i6 25),(25,.bool true),(26,i6 25),(27,u6 101),(28,.ptr (some (0,25))),(29,i6 25),(30,i6 26)] 32 [])
noncomputable def pS3:ASt:=(mkSt [(0,.cells (us [2,3,5,7,11,13,17,19,23,29,31,37,41,43,47,53,59,61,67,71,73,79,83,89,97,101,0,0,0,0,0,0,0,0,0,0,0,0,0,0,0,0,0,0,0,0,0,0,0,0,0,0,0,0,0,0,0,0,0,0,0,0,0,0]) true)] 1)
noncomputable def pF4:AFr:=(qSW [(0,.ptr (some (0,0))),(1,i6 37),(2,u6 162),(3,.bool false),(5,u6 157),(6,i6 37),(7,.bool true),(8,u6 161),(9,u6 162),(10,i6 37),(11,.slice (some (0,0)) 37 (.known 64)),(12,i6 37),(13,i6 37),(14,.bool false),(15,.ptr (some (0,36))),(16,u6 157),(17,.bool false),(18,.bool false),(19,.tuple []),(20,.tuple []),(21,.tuple []),(22,.tuple []),(23,.bool false),(24,i6 37),(25,.bool false),(26,i6 36),(27,u6 157),(28,.ptr (some (0,36))),(29,i6 36),(30,i6 37)] 32 [])
noncomputable def pS4:ASt:=(mkSt [(0,.cells (us [2,3,5,7,11,13,17,19,23,29,31,37,41,43,47,53,59,61,67,71,73,79,83,89,97,101,103,107,109,113,127,131,137,139,149,151,157,0,0,0,0,0,0,0,0,0,0,0,0,0,0,0,0,0,0,0,0,0,0,0,0,0,0,0]) true)] 1)
noncomputable def pF5:AFr:=(qSW [(0,.ptr (some (0,0))),(1,i6 47),(2,u6 212),(3,.bool true),(5,u6 199),(6,i6 46),(7,.bool true),(8,u6 211),(9,u6 212),(10,i6 46),(11,.slice (some (0,0)) 46 (.known 64)),(12,i6 46),(13,i6 46),(14,.bool false),(15,.ptr (some (0,45))),(16,u6 199),(17,.bool true),(18,.bool true),(19,u6 211),(20,u6 199),(21,u6 12),(22,.bool true),(23,.bool true),(24,i6 46),(25,.bool true),(26,i6 46),(27,u6 211),(28,.ptr (some (0,46))),(29,i6 46),(30,i6 47)] 32 [])
noncomputable def pS5:ASt:=(mkSt [(0,.cells (us [2,3,5,7,11,13,17,19,23,29,31,37,41,43,47,53,59,61,67,71,73,79,83,89,97,101,103,107,109,113,127,131,137,139,149,151,157,163,167,173,179,181,191,193,197,199,211,0,0,0,0,0,0,0,0,0,0,0,0,0,0,0,0,0]) true)] 1)
noncomputable def pF6:AFr:=(qSW [(0,.ptr (some (0,0))),(1,i6 54),(2,u6 252),(3,.bool true),(5,u6 241),(6,i6 53),(7,.bool true),(8,u6 251),(9,u6 252),(10,i6 53),(11,.slice (some (0,0)) 53 (.known 64)),(12,i6 53),(13,i6 53),(14,.bool false),(15,.ptr (some (0,52))),(16,u6 241),(17,.bool true),(18,.bool true),(19,u6 251),(20,u6 241),(21,u6 10),(22,.bool true),(23,.bool true),(24,i6 53),(25,.bool true),(26,i6 53),(27,u6 251),(28,.ptr (some (0,53))),(29,i6 53),(30,i6 54)] 32 [])
noncomputable def pS6:ASt:=(mkSt [(0,.cells (us [2,3,5,7,11,13,17,19,23,29,31,37,41,43,47,53,59,61,67,71,73,79,83,89,97,101,103,107,109,113,127,131,137,139,149,151,157,163,167,173,179,181,191,193,197,199,211,223,227,229,233,239,241,251,0,0,0,0,0,0,0,0,0,0]) true)] 1)
noncomputable def pF7:AFr:=(qSW [(0,.ptr (some (0,0))),(1,i6 61),(2,u6 292),(3,.bool false),(5,u6 283),(6,i6 61),(7,.bool true),(8,u6 291),(9,u6 292),(10,i6 61),(11,.slice (some (0,0)) 61 (.known 64)),(12,i6 61),(13,i6 61),(14,.bool false),(15,.ptr (some (0,60))),(16,u6 283),(17,.bool false),(18,.bool false),(19,.tuple []),(20,.tuple []),(21,.tuple []),(22,.tuple []),(23,.bool false),(24,i6 61),(25,.bool false),(26,i6 60),(27,u6 283),(28,.ptr (some (0,60))),(29,i6 60),(30,i6 61)] 32 [])
noncomputable def pS7:ASt:=(mkSt [(0,.cells (us [2,3,5,7,11,13,17,19,23,29,31,37,41,43,47,53,59,61,67,71,73,79,83,89,97,101,103,107,109,113,127,131,137,139,149,151,157,163,167,173,179,181,191,193,197,199,211,223,227,229,233,239,241,251,257,263,269,271,277,281,283,0,0,0]) true)] 1)
noncomputable def pF8:AFr:=(qSW [(0,.ptr (some (0,0))),(1,i6 64),(2,u6 312),(3,.bool true),(5,u6 307),(6,i6 64),(7,.bool false),(8,u6 311),(9,u6 312),(10,i6 63),(11,.slice (some (0,0)) 63 (.known 64)),(12,i6 63),(13,i6 63),(14,.bool false),(15,.ptr (some (0,62))),(16,u6 307),(17,.bool true),(18,.bool true),(19,u6 311),(20,u6 307),(21,u6 4),(22,.bool true),(23,.bool true),(24,i6 63),(25,.bool true),(26,i6 63),(27,u6 311),(28,.ptr (some (0,63))),(29,i6 63),(30,i6 64)] 32 [])
noncomputable def pS8:ASt:=(mkSt [(0,.cells (us [2,3,5,7,11,13,17,19,23,29,31,37,41,43,47,53,59,61,67,71,73,79,83,89,97,101,103,107,109,113,127,131,137,139,149,151,157,163,167,173,179,181,191,193,197,199,211,223,227,229,233,239,241,251,257,263,269,271,277,281,283,293,307,311]) true)] 1)
noncomputable def pF9:AFr:=(qSW [(0,.ptr (some (0,0))),(1,i6 64),(2,u6 312),(3,.bool true),(5,u6 307),(6,i6 64),(7,.bool false),(8,u6 311),(9,u6 312),(10,i6 63),(11,.slice (some (0,0)) 63 (.known 64)),(12,i6 63),(13,i6 63),(14,.bool false),(15,.ptr (some (0,62))),(16,u6 307),(17,.bool true),(18,.bool true),(19,u6 311),(20,u6 307),(21,u6 4),(22,.bool true),(23,.bool true),(24,i6 63),(25,.bool true),(26,i6 63),(27,u6 311),(28,.ptr (some (0,63))),(29,i6 63),(30,i6 64),(31,.agg (us [2,3,5,7,11,13,17,19,23,29,31,37,41,43,47,53,59,61,67,71,73,79,83,89,97,101,103,107,109,113,127,131,137,139,149,151,157,163,167,173,179,181,191,193,197,199,211,223,227,229,233,239,241,251,257,263,269,271,277,281,283,293,307,311]))] 32 [])
noncomputable def pS9:ASt:=(mkSt [(0,.cells (us [2,3,5,7,11,13,17,19,23,29,31,37,41,43,47,53,59,61,67,71,73,79,83,89,97,101,103,107,109,113,127,131,137,139,149,151,157,163,167,173,179,181,191,193,197,199,211,223,227,229,233,239,241,251,257,263,269,271,277,281,283,293,307,311]) true)] 1)
theorem p0 (m:Nat):(M E1 (drawA E1) qAa (m+25)).ex none pR0 {m:=qAM [] 0 .e,n:=Tryz.f201.ntmps,defs:=[]} st0=some (.normal,pF0,pS0):=by kernel_rfl
theorem p1 (m:Nat):(M E1 (drawA E1) qAa (m+24)).ex none pR1 pF0 pS0=some (.normal,pF1,pS1):=by kernel_rfl
theorem p2 (m:Nat):(M E1 (drawA E1) qAa (m+22)).ex none pR2 pF1 pS1=some (.normal,pF2,pS2):=by kernel_rfl
theorem pK0 (m:Nat):it ((M E1 (drawA E1) qAa (m+20)).ex none pB) 100 pF2 pS2=some (.normal,pF3,pS3):=by kernel_rfl
theorem pK1 (m:Nat):it ((M E1 (drawA E1) qAa (m+20)).ex none pB) 60 pF3 pS3=some (.normal,pF4,pS4):=by kernel_rfl
theorem pK2 (m:Nat):it ((M E1 (drawA E1) qAa (m+20)).ex none pB) 50 pF4 pS4=some (.normal,pF5,pS5):=by kernel_rfl
theorem pK3 (m:Nat):it ((M E1 (drawA E1) qAa (m+20)).ex none pB) 40 pF5 pS5=some (.normal,pF6,pS6):=by kernel_rfl
theorem pK4 (m:Nat):it ((M E1 (drawA E1) qAa (m+20)).ex none pB) 40 pF6 pS6=some (.normal,pF7,pS7):=by kernel_rfl
theorem pK5 (m:Nat):it ((M E1 (drawA E1) qAa (m+20)).ex none pB) 25 pF7 pS7=some (.exit 0,pF8,pS8):=by kernel_rfl
theorem p9 (m:Nat):(M E1 (drawA E1) qAa (m+23)).ex none pRS pF8 pS8=some (.ret,pF9,pS9):=by kernel_rfl
theorem qLy (m:Nat):(M E1 (drawA E1) qAa (m+27)).call 201 [] st0=some (.agg (us [2,3,5,7,11,13,17,19,23,29,31,37,41,43,47,53,59,61,67,71,73,79,83,89,97,101,103,107,109,113,127,131,137,139,149,151,157,163,167,173,179,181,191,193,197,199,211,223,227,229,233,239,241,251,257,263,269,271,277,281,283,293,307,311]),pS9) :=
 qXz rfl (by kernel_rfl) qZS (by kernel_rfl) (qNi (p0 m) (qNi (p1 m) (qNi (qNi (p2 m) (qTh (qXO (by kernel_rfl) (qDm (pK0 m) (qDm (pK1 m) (qDm (pK2 m) (qDm (pK3 m) (qDm (pK4 m) (qO4 (pK5 m))))))) (by decide) (fun h=>by cases h)))) (p9 m)))) (by kernel_rfl)
theorem qWZ:MemoOK Tryz.prog ⟨201,[],.agg (us [2,3,5,7,11,13,17,19,23,29,31,37,41,43,47,53,59,61,67,71,73,79,83,89,97,101,103,107,109,113,127,131,137,139,149,151,157,163,167,173,179,181,191,193,197,199,211,223,227,229,233,239,241,251,257,263,269,271,277,281,283,293,307,311])⟩:=qAT (n:=27) qBo qAB Tryz.call201 (by kernel_rfl) (by rw[qLy 0];kernel_rfl)
end Go.Proofs.YtiafochainjglaaGreatDoor.shaPart
end
