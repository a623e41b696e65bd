/-
  OWN WORK, A PART: an abstract machine for the program's text that the kernel can run, and the proof that it is sound: what it answers is what the program answers; contracts of functions by it. No condition.
-/
import Derived.Test.YtiafochainjglaaGreatDoorMtH
import Derived.KernelRfl
section
open Go Go.Ax Go.Proofs
namespace Go.Proofs.YtiafochainjglaaGreatDoor.drp.pu
set_option linter.unusedVariables false
noncomputable def fnsY2:List (Nat×Func):=[(24,Tryz.f24),(11,Tryz.f11),(53,Tryz.f53),(120,Tryz.f120)]
noncomputable def EY2:Env:=envEx Tryz.prog [0,3,4,5,23,24,25,27,28,29,30,31,32,33,34,35,36,37,43] fnsY2 []
noncomputable def fnsPu:List (Nat×Func):=[(16,Tryz.f16),(41,Tryz.f41),(43,Tryz.f43)]
noncomputable def EPu:Env:=envEx Tryz.prog [0,3,4,5,23,24,25,27,28,29,30,31,32,33,34,35,36,37,43,53,54,60,111,117] fnsPu []
def mG (b s:Int) (c:Bool) (x:Nat→Nat) (Z:Nat→Int) (t:Nat) (mk:Bool) (se nu ho:Nat):List AV:=.int .i64 b::([.int .i64 s,.bool c,.int .u64 (.ofNat (x 1)),.int .u64 (.ofNat (x 2)),.int .u64 (.ofNat (x 3)),.int .u64 (.ofNat (x 4)),.int .u64 (.ofNat (x 5))]++(cd6.tL Z++[.int .u64 (.ofNat t),.bool mk,.int .u64 (.ofNat se),.int .u64 (.ofNat nu),.int .u16 (.ofNat ho)]))
def sG (s:Int) (c:Bool) (x:Nat→Nat):List AV:=[.int .i64 s,.bool c,.int .u64 (.ofNat (x 1)),.int .u64 (.ofNat (x 2)),.int .u64 (.ofNat (x 3)),.int .u64 (.ofNat (x 4)),.int .u64 (.ofNat (x 5))]
noncomputable def cPu:Code:=Option.getD Tryz.f16.body .skip
noncomputable def LPu:Code:=lopB (blkB (seqR (seqL (dropC 6 cPu))))
noncomputable def tMO (q:CallT) (b s:Int) (c:Bool) (x:Nat→Nat) (Z:Nat→Int) (t:Nat) (mk:Bool) (se nu ho:Nat) (a1 a2 a3 a4 a5 a6 a7 a8:Bool):Tr (AV×ASt):=(TM EY2 (onlyC [76,77,58,48,49,50] q) [(24,⟨[6,10,15,20,28,36,41,45],[],[6,10,15,20,28,32,36,41],[]⟩)] fl0 60).call 24 [.agg (mG b s c x Z t mk se nu ho)] (mkSt [] 1)
noncomputable def tMR (q:CallT) (b s:Int) (c:Bool) (x:Nat→Nat) (Z:Nat→Int) (t:Nat) (mk:Bool) (se nu ho:Nat) (a1 a2 a3 a4 a5 a6 a7 a8:Bool):Tr (AV×ASt):=(TM EY2 (onlyC [76,77,58,48,49,50] q) [(11,⟨[5,9,14,20,28,35,40,44],[],[5,9,14,20,28,31,35,40],[]⟩)] fl0 60).call 11 [.agg (mG b s c x Z t mk se nu ho)] (mkSt [] 1)
noncomputable def tPc (q:CallT) (k t se nu ho:Nat) (x y:Nat→Nat) (c mk:Bool) (d k0 k1:Nat) (B0 B2:List Nat) (S S1 S2 S3 S4:ASt):Tr (Exit×AFr×ASt):=(TM EPu (onlyC [53,24,60,61,62,63,19,40] q) [] fl0 60).ex ⟨[3,12,13,22,23,6,28,29,35,37,38,43,45,46,49,50,52,53,54,56,58,59,60,61,63,65,8,68,73,69,75,4095,4094],[],[],[]⟩ none (preC 4 cPu) {m:=putArgs [.ptr (some (d,0)),.agg (mL k x c y t mk se nu ho)] 0 .e,n:=76,defs:=[]} S
noncomputable def tPd (q:CallT) (d k0 k1 se:Nat) (B4:List Nat) (S S1:ASt):Tr (Exit×AFr×ASt):=(TM EPu (onlyC [53,24,60,61,62,63,19,40] q) [] fl0 60).ex ⟨[3,12,13,22,23,6,28,29,35,37,38,43,45,46,49,50,52,53,54,56,58,59,60,61,63,65,8,68,73,69,75,4095,4094],[],[],[]⟩ none (seqL (dropC 4 cPu)) (xFr [(0,.ptr (some (d,0))),(3,.ptr (some (k0,0))),(6,.ptr (some (k1,0)))] 76) S
noncomputable def tPe (d k0 k1:Nat) (S:ASt):Tr (Exit×AFr×ASt):=(TM EPu noSum [] fl0 60).ex ⟨[3,12,13,22,23,6,28,29,35,37,38,43,45,46,49,50,52,53,54,56,58,59,60,61,63,65,8,68,73,69,75,4095,4094],[],[],[]⟩ none (seqL (dropC 4 cPu)) (xFr [(0,.ptr (some (d,0))),(3,.ptr (some (k0,0))),(6,.ptr (some (k1,0)))] 76) S
noncomputable def tPf (q:CallT) (d k0 k1 nu ho:Nat) (BL:List Nat) (S S1:ASt):Tr (Exit×AFr×ASt):=(TM EPu (onlyC [53,24,60,61,62,63,19,40] q) [] fl0 60).ex ⟨[3,12,13,22,23,6,28,29,35,37,38,43,45,46,49,50,52,53,54,56,58,59,60,61,63,65,8,68,73,69,75,4095,4094],[],[],[]⟩ none (seqL (dropC 5 cPu)) (xFr [(0,.ptr (some (d,0))),(3,.ptr (some (k0,0))),(6,.ptr (some (k1,0)))] 76) S
noncomputable def tPg (d k0 k1 nu:Nat) (S:ASt):Tr (Exit×AFr×ASt):=(TM EPu noSum [] fl0 60).ex ⟨[3,12,13,22,23,6,28,29,35,37,38,43,45,46,49,50,52,53,54,56,58,59,60,61,63,65,8,68,73,69,75,4095,4094],[],[],[]⟩ none (seqL (dropC 5 cPu)) (xFr [(0,.ptr (some (d,0))),(3,.ptr (some (k0,0))),(6,.ptr (some (k1,0)))] 76) S
noncomputable def tPh (d k0 k1:Nat) (R:List AV) (S:ASt):Tr (Exit×AFr×ASt):=(TM EPu noSum [] fl0 60).ex ⟨[3,12,13,22,23,6,28,29,35,37,38,43,45,46,49,50,52,53,54,56,58,59,60,61,63,65,8,68,73,69,75,4095,4094],[],[],[]⟩ none (seqL (seqL (dropC 6 cPu))) (xFr [(0,.ptr (some (d,0))),(3,.ptr (some (k0,0))),(6,.ptr (some (k1,0)))] 76) S
noncomputable def tPi (q:CallT) (d i k2:Nat) (B:List Nat) (R:List AV) (S S1 S2 S3:ASt):Tr (Exit×AFr×ASt):=(TM EPu (onlyC [53,24,60,61,62,63,19,40] q) [] fl0 60).ex ⟨[3,12,13,22,23,6,28,29,35,37,38,43,45,46,49,50,52,53,54,56,58,59,60,61,63,65,8,68,73,69,75,4095,4094],[],[],[]⟩ none LPu (xFr [(0,.ptr (some (d,0))),(61,.agg R),(62,.int .i64 (.ofNat i))] 76) S
noncomputable def tPj (d:Nat) (R:List AV) (S:ASt):Tr (Exit×AFr×ASt):=(TM EPu noSum [] fl0 60).ex ⟨[3,12,13,22,23,6,28,29,35,37,38,43,45,46,49,50,52,53,54,56,58,59,60,61,63,65,8,68,73,69,75,4095,4094],[],[],[]⟩ none LPu (xFr [(0,.ptr (some (d,0))),(61,.agg R),(62,.int .i64 (.ofNat 9))] 76) S
noncomputable def tPk (q:CallT) (d:Nat) (S S1:ASt):Tr (Exit×AFr×ASt):=(TM EPu (onlyC [53,24,60,61,62,63,19,40] q) [] fl0 60).ex ⟨[3,12,13,22,23,6,28,29,35,37,38,43,45,46,49,50,52,53,54,56,58,59,60,61,63,65,8,68,73,69,75,4095,4094],[],[],[]⟩ none (dropC 7 cPu) (xFr [(0,.ptr (some (d,0)))] 76) S
noncomputable def vcMO_s0 (q:CallT) (b:Int) (s:Int) (c:Bool) (x:Nat→Nat) (Z:Nat→Int) (t:Nat) (mk:Bool) (se:Nat) (nu:Nat) (ho:Nat) (a1:Bool) (a2:Bool) (a3:Bool) (a4:Bool) (a5:Bool) (a6:Bool) (a7:Bool) (a8:Bool):ASt:=mkSt [(1,AO.cells (mG b s c x Z t mk se nu ho) true)] 2
noncomputable def vcMO_s1 (q:CallT) (b:Int) (s:Int) (c:Bool) (x:Nat→Nat) (Z:Nat→Int) (t:Nat) (mk:Bool) (se:Nat) (nu:Nat) (ho:Nat) (a1:Bool) (a2:Bool) (a3:Bool) (a4:Bool) (a5:Bool) (a6:Bool) (a7:Bool) (a8:Bool):ASt:=mkSt [] 2
theorem vcMO (q:CallT) (b:Int) (s:Int) (c:Bool) (x:Nat→Nat) (Z:Nat→Int) (t:Nat) (mk:Bool) (se:Nat) (nu:Nat) (ho:Nat) (a1:Bool) (a2:Bool) (a3:Bool) (a4:Bool) (a5:Bool) (a6:Bool) (a7:Bool) (a8:Bool) (Q:AV×ASt→Prop) :
 (still (vcMO_s0 q b s c x Z t mk se nu ho a1 a2 a3 a4 a5 a6 a7 a8) (aBin EY2 BinOp.lss 3 (Operand.tmp 5) (Operand.const (Value.int IntKind.i64 1)) (AV.int IntKind.i64 b) (AV.int IntKind.i64 (Int.ofNat 1)))=some (AV.bool a1,vcMO_s0 q b s c x Z t mk se nu ho a1 a2 a3 a4 a5 a6 a7 a8)∧ifB a1 (Q (AV.bool false,vcMO_s1 q b s c x Z t mk se nu ho a1 a2 a3 a4 a5 a6 a7 a8)) (still (vcMO_s0 q b s c x Z t mk se nu ho a1 a2 a3 a4 a5 a6 a7 a8) (aBin EY2 BinOp.gtr 3 (Operand.tmp 9) (Operand.const (Value.int IntKind.i64 64)) (AV.int IntKind.i64 b) (AV.int IntKind.i64 (Int.ofNat 64)))=some (AV.bool a2,vcMO_s0 q b s c x Z t mk se nu ho a1 a2 a3 a4 a5 a6 a7 a8)∧ifB a2 (Q (AV.bool false,vcMO_s1 q b s c x Z t mk se nu ho a1 a2 a3 a4 a5 a6 a7 a8)) ((M EY2 (drawA EY2) (onlyC [76,77,58,48,49,50] q) 52).call 76 [AV.agg (sG s c x)] (vcMO_s0 q b s c x Z t mk se nu ho a1 a2 a3 a4 a5 a6 a7 a8)=some (AV.bool a3,vcMO_s0 q b s c x Z t mk se nu ho a1 a2 a3 a4 a5 a6 a7 a8)∧ifB a3 ((M EY2 (drawA EY2) (onlyC [76,77,58,48,49,50] q) 52).call 77 [AV.agg (cd6.tL Z)] (vcMO_s0 q b s c x Z t mk se nu ho a1 a2 a3 a4 a5 a6 a7 a8)=some (AV.bool a4,vcMO_s0 q b s c x Z t mk se nu ho a1 a2 a3 a4 a5 a6 a7 a8)∧ifB a4 ((M EY2 (drawA EY2) (onlyC [76,77,58,48,49,50] q) 50).call 58 [AV.int IntKind.u64 (Int.ofNat se),AV.int IntKind.i64 b] (vcMO_s0 q b s c x Z t mk se nu ho a1 a2 a3 a4 a5 a6 a7 a8)=some (AV.bool a5,vcMO_s0 q b s c x Z t mk se nu ho a1 a2 a3 a4 a5 a6 a7 a8)∧ifB a5 (Q (AV.bool false,vcMO_s1 q b s c x Z t mk se nu ho a1 a2 a3 a4 a5 a6 a7 a8)) (ifB (!mk) (still (vcMO_s0 q b s c x Z t mk se nu ho a1 a2 a3 a4 a5 a6 a7 a8) (aBin EY2 BinOp.neq 24 (Operand.tmp 35) (Operand.const (Value.int IntKind.u64 0)) (AV.int IntKind.u64 (Int.ofNat se)) (AV.int IntKind.u64 (Int.ofNat 0)))=some (AV.bool a6,vcMO_s0 q b s c x Z t mk se nu ho a1 a2 a3 a4 a5 a6 a7 a8)∧ifB a6 (Q (AV.bool false,vcMO_s1 q b s c x Z t mk se nu ho a1 a2 a3 a4 a5 a6 a7 a8)) (still (vcMO_s0 q b s c x Z t mk se nu ho a1 a2 a3 a4 a5 a6 a7 a8) (aBin EY2 BinOp.neq 24 (Operand.tmp 40) (Operand.const (Value.int IntKind.u64 0)) (AV.int IntKind.u64 (Int.ofNat nu)) (AV.int IntKind.u64 (Int.ofNat 0)))=some (AV.bool a7,vcMO_s0 q b s c x Z t mk se nu ho a1 a2 a3 a4 a5 a6 a7 a8)∧ifB a7 (Q (AV.bool true,vcMO_s1 q b s c x Z t mk se nu ho a1 a2 a3 a4 a5 a6 a7 a8)) (still (vcMO_s0 q b s c x Z t mk se nu ho a1 a2 a3 a4 a5 a6 a7 a8) (aBin EY2 BinOp.eql 34 (Operand.tmp 44) (Operand.const (Value.int IntKind.u16 0)) (AV.int IntKind.u16 (Int.ofNat ho)) (AV.int IntKind.u16 (Int.ofNat 0)))=some (AV.bool a8,vcMO_s0 q b s c x Z t mk se nu ho a1 a2 a3 a4 a5 a6 a7 a8)∧Q (AV.bool a8,vcMO_s1 q b s c x Z t mk se nu ho a1 a2 a3 a4 a5 a6 a7 a8)))) (still (vcMO_s0 q b s c x Z t mk se nu ho a1 a2 a3 a4 a5 a6 a7 a8) (aBin EY2 BinOp.neq 24 (Operand.tmp 40) (Operand.const (Value.int IntKind.u64 0)) (AV.int IntKind.u64 (Int.ofNat nu)) (AV.int IntKind.u64 (Int.ofNat 0)))=some (AV.bool a7,vcMO_s0 q b s c x Z t mk se nu ho a1 a2 a3 a4 a5 a6 a7 a8)∧ifB a7 (Q (AV.bool true,vcMO_s1 q b s c x Z t mk se nu ho a1 a2 a3 a4 a5 a6 a7 a8)) (still (vcMO_s0 q b s c x Z t mk se nu ho a1 a2 a3 a4 a5 a6 a7 a8) (aBin EY2 BinOp.eql 34 (Operand.tmp 44) (Operand.const (Value.int IntKind.u16 0)) (AV.int IntKind.u16 (Int.ofNat ho)) (AV.int IntKind.u16 (Int.ofNat 0)))=some (AV.bool a8,vcMO_s0 q b s c x Z t mk se nu ho a1 a2 a3 a4 a5 a6 a7 a8)∧Q (AV.bool a8,vcMO_s1 q b s c x Z t mk se nu ho a1 a2 a3 a4 a5 a6 a7 a8))))) (Q (AV.bool false,vcMO_s1 q b s c x Z t mk se nu ho a1 a2 a3 a4 a5 a6 a7 a8))) (Q (AV.bool false,vcMO_s1 q b s c x Z t mk se nu ho a1 a2 a3 a4 a5 a6 a7 a8))))) =
 (tMO q b s c x Z t mk se nu ho a1 a2 a3 a4 a5 a6 a7 a8).allY (fun r=>Q (r.1,canS [] r.2)) (An.v (AV.bool a1,vcMO_s0 q b s c x Z t mk se nu ho a1 a2 a3 a4 a5 a6 a7 a8) (An.b An.nil (An.v (AV.bool a2,vcMO_s0 q b s c x Z t mk se nu ho a1 a2 a3 a4 a5 a6 a7 a8) (An.b An.nil (An.v (AV.bool a3,vcMO_s0 q b s c x Z t mk se nu ho a1 a2 a3 a4 a5 a6 a7 a8) (An.b (An.v (AV.bool a4,vcMO_s0 q b s c x Z t mk se nu ho a1 a2 a3 a4 a5 a6 a7 a8) (An.b (An.v (AV.bool a5,vcMO_s0 q b s c x Z t mk se nu ho a1 a2 a3 a4 a5 a6 a7 a8) (An.b An.nil (An.b (An.v (AV.bool a6,vcMO_s0 q b s c x Z t mk se nu ho a1 a2 a3 a4 a5 a6 a7 a8) (An.b An.nil (An.v (AV.bool a7,vcMO_s0 q b s c x Z t mk se nu ho a1 a2 a3 a4 a5 a6 a7 a8) (An.b An.nil (An.v (AV.bool a8,vcMO_s0 q b s c x Z t mk se nu ho a1 a2 a3 a4 a5 a6 a7 a8) An.nil))))) (An.v (AV.bool a7,vcMO_s0 q b s c x Z t mk se nu ho a1 a2 a3 a4 a5 a6 a7 a8) (An.b An.nil (An.v (AV.bool a8,vcMO_s0 q b s c x Z t mk se nu ho a1 a2 a3 a4 a5 a6 a7 a8) An.nil)))))) An.nil)) An.nil)))))):=by kernel_rfl
noncomputable def vcMR_s0 (q:CallT) (b:Int) (s:Int) (c:Bool) (x:Nat→Nat) (Z:Nat→Int) (t:Nat) (mk:Bool) (se:Nat) (nu:Nat) (ho:Nat) (a1:Bool) (a2:Bool) (a3:Bool) (a4:Bool) (a5:Bool) (a6:Bool) (a7:Bool) (a8:Bool):ASt:=mkSt [(1,AO.cells (mG b s c x Z t mk se nu ho) true)] 2
noncomputable def vcMR_s1 (q:CallT) (b:Int) (s:Int) (c:Bool) (x:Nat→Nat) (Z:Nat→Int) (t:Nat) (mk:Bool) (se:Nat) (nu:Nat) (ho:Nat) (a1:Bool) (a2:Bool) (a3:Bool) (a4:Bool) (a5:Bool) (a6:Bool) (a7:Bool) (a8:Bool):ASt:=mkSt [] 2
theorem vcMR (q:CallT) (b:Int) (s:Int) (c:Bool) (x:Nat→Nat) (Z:Nat→Int) (t:Nat) (mk:Bool) (se:Nat) (nu:Nat) (ho:Nat) (a1:Bool) (a2:Bool) (a3:Bool) (a4:Bool) (a5:Bool) (a6:Bool) (a7:Bool) (a8:Bool) (Q:AV×ASt→Prop) :
 (still (vcMR_s0 q b s c x Z t mk se nu ho a1 a2 a3 a4 a5 a6 a7 a8) (aBin EY2 BinOp.lss 3 (Operand.tmp 4) (Operand.const (Value.int IntKind.i64 1)) (AV.int IntKind.i64 b) (AV.int IntKind.i64 (Int.ofNat 1)))=some (AV.bool a1,vcMR_s0 q b s c x Z t mk se nu ho a1 a2 a3 a4 a5 a6 a7 a8)∧ifB a1 (Q (AV.bool false,vcMR_s1 q b s c x Z t mk se nu ho a1 a2 a3 a4 a5 a6 a7 a8)) (still (vcMR_s0 q b s c x Z t mk se nu ho a1 a2 a3 a4 a5 a6 a7 a8) (aBin EY2 BinOp.gtr 3 (Operand.tmp 8) (Operand.const (Value.int IntKind.i64 64)) (AV.int IntKind.i64 b) (AV.int IntKind.i64 (Int.ofNat 64)))=some (AV.bool a2,vcMR_s0 q b s c x Z t mk se nu ho a1 a2 a3 a4 a5 a6 a7 a8)∧ifB a2 (Q (AV.bool false,vcMR_s1 q b s c x Z t mk se nu ho a1 a2 a3 a4 a5 a6 a7 a8)) ((M EY2 (drawA EY2) (onlyC [76,77,58,48,49,50] q) 55).call 48 [AV.agg (sG s c x)] (vcMR_s0 q b s c x Z t mk se nu ho a1 a2 a3 a4 a5 a6 a7 a8)=some (AV.bool a3,vcMR_s0 q b s c x Z t mk se nu ho a1 a2 a3 a4 a5 a6 a7 a8)∧ifB a3 ((M EY2 (drawA EY2) (onlyC [76,77,58,48,49,50] q) 55).call 49 [AV.agg (cd6.tL Z)] (vcMR_s0 q b s c x Z t mk se nu ho a1 a2 a3 a4 a5 a6 a7 a8)=some (AV.bool a4,vcMR_s0 q b s c x Z t mk se nu ho a1 a2 a3 a4 a5 a6 a7 a8)∧ifB a4 ((M EY2 (drawA EY2) (onlyC [76,77,58,48,49,50] q) 55).call 50 [AV.int IntKind.u64 (Int.ofNat se),AV.int IntKind.i64 b] (vcMR_s0 q b s c x Z t mk se nu ho a1 a2 a3 a4 a5 a6 a7 a8)=some (AV.bool a5,vcMR_s0 q b s c x Z t mk se nu ho a1 a2 a3 a4 a5 a6 a7 a8)∧ifB a5 (Q (AV.bool false,vcMR_s1 q b s c x Z t mk se nu ho a1 a2 a3 a4 a5 a6 a7 a8)) (ifB mk (still (vcMR_s0 q b s c x Z t mk se nu ho a1 a2 a3 a4 a5 a6 a7 a8) (aBin EY2 BinOp.gtr 24 (Operand.tmp 39) (Operand.const (Value.int IntKind.u64 0)) (AV.int IntKind.u64 (Int.ofNat nu)) (AV.int IntKind.u64 (Int.ofNat 0)))=some (AV.bool a7,vcMR_s0 q b s c x Z t mk se nu ho a1 a2 a3 a4 a5 a6 a7 a8)∧ifB a7 (Q (AV.bool true,vcMR_s1 q b s c x Z t mk se nu ho a1 a2 a3 a4 a5 a6 a7 a8)) (still (vcMR_s0 q b s c x Z t mk se nu ho a1 a2 a3 a4 a5 a6 a7 a8) (aBin EY2 BinOp.eql 34 (Operand.tmp 43) (Operand.const (Value.int IntKind.u16 0)) (AV.int IntKind.u16 (Int.ofNat ho)) (AV.int IntKind.u16 (Int.ofNat 0)))=some (AV.bool a8,vcMR_s0 q b s c x Z t mk se nu ho a1 a2 a3 a4 a5 a6 a7 a8)∧Q (AV.bool a8,vcMR_s1 q b s c x Z t mk se nu ho a1 a2 a3 a4 a5 a6 a7 a8))) (still (vcMR_s0 q b s c x Z t mk se nu ho a1 a2 a3 a4 a5 a6 a7 a8) (aBin EY2 BinOp.eql 24 (Operand.tmp 34) (Operand.const (Value.int IntKind.u64 0)) (AV.int IntKind.u64 (Int.ofNat se)) (AV.int IntKind.u64 (Int.ofNat 0)))=some (AV.bool a6,vcMR_s0 q b s c x Z t mk se nu ho a1 a2 a3 a4 a5 a6 a7 a8)∧ifB a6 (still (vcMR_s0 q b s c x Z t mk se nu ho a1 a2 a3 a4 a5 a6 a7 a8) (aBin EY2 BinOp.gtr 24 (Operand.tmp 39) (Operand.const (Value.int IntKind.u64 0)) (AV.int IntKind.u64 (Int.ofNat nu)) (AV.int IntKind.u64 (Int.ofNat 0)))=some (AV.bool a7,vcMR_s0 q b s c x Z t mk se nu ho a1 a2 a3 a4 a5 a6 a7 a8)∧ifB a7 (Q (AV.bool true,vcMR_s1 q b s c x Z t mk se nu ho a1 a2 a3 a4 a5 a6 a7 a8)) (still (vcMR_s0 q b s c x Z t mk se nu ho a1 a2 a3 a4 a5 a6 a7 a8) (aBin EY2 BinOp.eql 34 (Operand.tmp 43) (Operand.const (Value.int IntKind.u16 0)) (AV.int IntKind.u16 (Int.ofNat ho)) (AV.int IntKind.u16 (Int.ofNat 0)))=some (AV.bool a8,vcMR_s0 q b s c x Z t mk se nu ho a1 a2 a3 a4 a5 a6 a7 a8)∧Q (AV.bool a8,vcMR_s1 q b s c x Z t mk se nu ho a1 a2 a3 a4 a5 a6 a7 a8))) (Q (AV.bool false,vcMR_s1 q b s c x Z t mk se nu ho a1 a2 a3 a4 a5 a6 a7 a8))))) (Q (AV.bool false,vcMR_s1 q b s c x Z t mk se nu ho a1 a2 a3 a4 a5 a6 a7 a8))) (Q (AV.bool false,vcMR_s1 q b s c x Z t mk se nu ho a1 a2 a3 a4 a5 a6 a7 a8))))) =
 (tMR q b s c x Z t mk se nu ho a1 a2 a3 a4 a5 a6 a7 a8).allY (fun r=>Q (r.1,canS [] r.2)) (An.v (AV.bool a1,vcMR_s0 q b s c x Z t mk se nu ho a1 a2 a3 a4 a5 a6 a7 a8) (An.b An.nil (An.v (AV.bool a2,vcMR_s0 q b s c x Z t mk se nu ho a1 a2 a3 a4 a5 a6 a7 a8) (An.b An.nil (An.v (AV.bool a3,vcMR_s0 q b s c x Z t mk se nu ho a1 a2 a3 a4 a5 a6 a7 a8) (An.b (An.v (AV.bool a4,vcMR_s0 q b s c x Z t mk se nu ho a1 a2 a3 a4 a5 a6 a7 a8) (An.b (An.v (AV.bool a5,vcMR_s0 q b s c x Z t mk se nu ho a1 a2 a3 a4 a5 a6 a7 a8) (An.b An.nil (An.b (An.v (AV.bool a7,vcMR_s0 q b s c x Z t mk se nu ho a1 a2 a3 a4 a5 a6 a7 a8) (An.b An.nil (An.v (AV.bool a8,vcMR_s0 q b s c x Z t mk se nu ho a1 a2 a3 a4 a5 a6 a7 a8) An.nil))) (An.v (AV.bool a6,vcMR_s0 q b s c x Z t mk se nu ho a1 a2 a3 a4 a5 a6 a7 a8) (An.b (An.v (AV.bool a7,vcMR_s0 q b s c x Z t mk se nu ho a1 a2 a3 a4 a5 a6 a7 a8) (An.b An.nil (An.v (AV.bool a8,vcMR_s0 q b s c x Z t mk se nu ho a1 a2 a3 a4 a5 a6 a7 a8) An.nil))) An.nil))))) An.nil)) An.nil)))))):=by kernel_rfl
theorem vcPc (q:CallT) (k:Nat) (t:Nat) (se:Nat) (nu:Nat) (ho:Nat) (x:Nat→Nat) (y:Nat→Nat) (c:Bool) (mk:Bool) (d:Nat) (k0:Nat) (k1:Nat) (B0:List Nat) (B2:List Nat) (S:ASt) (S1:ASt) (S2:ASt) (S3:ASt) (S4:ASt) (Q:Exit×AFr×ASt→Prop) :
 (aBox (AV.agg (mL k x c y t mk se nu ho)) S=some (AV.ptr (some (k0,0)),S1)∧aLoad EPu 3 (AV.ptr (some (k0,0))) S1=some (AV.int IntKind.i64 (Int.ofNat k),S1)∧(M EPu (drawA EPu) (onlyC [53,24,60,61,62,63,19,40] q) 56).call 53 [AV.ptr (some (d,0)),AV.int IntKind.i64 (Int.ofNat k)] S1=some (AV.int IntKind.i64 (Int.ofNat 0),S1)∧aLoad EPu 36 (AV.ptr (some (k0,0))) S1=some (AV.agg (mL k x c y t mk se nu ho),S1)∧(M EPu (drawA EPu) (onlyC [53,24,60,61,62,63,19,40] q) 52).call 24 [AV.agg (mL k x c y t mk se nu ho)] S1=some (AV.bool true,S1)∧aAlloc EPu 117 S1=some (AV.ptr (some (k1,0)),S2)∧aLoad EPu 29 (AV.ptr (some (k0,1))) S2=some (AV.agg (sL x c),S2)∧(M EPu (drawA EPu) (onlyC [53,24,60,61,62,63,19,40] q) 55).call 60 [AV.agg (sL x c)] S2=some (AV.tuple [AV.agg (bl B0),AV.int IntKind.i64 (Int.ofNat 0)],S2)∧Option.map (fun s=>(undefA,s)) (aStore EPu 54 (AV.ptr (some (k1,0))) (AV.agg (bl B0)) S2)=some (AV.tuple [],S3)∧aLoad EPu 33 (AV.ptr (some (k0,8))) S3=some (AV.agg (rL y),S3)∧aLoad EPu 24 (AV.ptr (some (k0,27))) S3=some (AV.int IntKind.u64 (Int.ofNat t),S3)∧(M EPu (drawA EPu) (onlyC [53,24,60,61,62,63,19,40] q) 55).call 61 [AV.agg (rL y),AV.int IntKind.u64 (Int.ofNat t)] S3=some (AV.tuple [AV.agg (bl B2),AV.int IntKind.i64 (Int.ofNat 0)],S3)∧Option.map (fun s=>(undefA,s)) (aStore EPu 54 (AV.ptr (some (k1,512))) (AV.agg (bl B2)) S3)=some (AV.tuple [],S4)∧Q (Exit.normal,xFr [(0,AV.ptr (some (d,0))),(3,AV.ptr (some (k0,0))),(6,AV.ptr (some (k1,0)))] 76,S4)) =
 (tPc q k t se nu ho x y c mk d k0 k1 B0 B2 S S1 S2 S3 S4).allY (fun r=>Q (rawR [0,3,6] r)) (An.v (AV.ptr (some (k0,0)),S1) (An.v (AV.int IntKind.i64 (Int.ofNat k),S1) (An.v (AV.int IntKind.i64 (Int.ofNat 0),S1) (An.v (AV.agg (mL k x c y t mk se nu ho),S1) (An.v (AV.bool true,S1) (An.v (AV.ptr (some (k1,0)),S2) (An.v (AV.agg (sL x c),S2) (An.v (AV.tuple [AV.agg (bl B0),AV.int IntKind.i64 (Int.ofNat 0)],S2) (An.v (AV.tuple [],S3) (An.v (AV.agg (rL y),S3) (An.v (AV.int IntKind.u64 (Int.ofNat t),S3) (An.v (AV.tuple [AV.agg (bl B2),AV.int IntKind.i64 (Int.ofNat 0)],S3) (An.v (AV.tuple [],S4) An.nil))))))))))))):=by kernel_rfl
theorem vcPd (q:CallT) (d:Nat) (k0:Nat) (k1:Nat) (se:Nat) (B4:List Nat) (S:ASt) (S1:ASt) (Q:Exit×AFr×ASt→Prop) :
 (aLoad EPu 4 (AV.ptr (some (k0,28))) S=some (AV.bool true,S)∧aLoad EPu 24 (AV.ptr (some (k0,29))) S=some (AV.int IntKind.u64 (Int.ofNat se),S)∧(M EPu (drawA EPu) (onlyC [53,24,60,61,62,63,19,40] q) 57).call 62 [AV.int IntKind.u64 (Int.ofNat se)] S=some (AV.agg (bl B4),S)∧Option.map (fun s=>(undefA,s)) (aStore EPu 54 (AV.ptr (some (k1,1024))) (AV.agg (bl B4)) S)=some (AV.tuple [],S1)∧Q (Exit.normal,xFr [(0,AV.ptr (some (d,0))),(3,AV.ptr (some (k0,0))),(6,AV.ptr (some (k1,0)))] 76,S1)) =
 (tPd q d k0 k1 se B4 S S1).allY (fun r=>Q (rawR [0,3,6] r)) (An.v (AV.bool true,S) (An.v (AV.int IntKind.u64 (Int.ofNat se),S) (An.v (AV.agg (bl B4),S) (An.v (AV.tuple [],S1) An.nil)))):=by kernel_rfl
theorem vcPe (d:Nat) (k0:Nat) (k1:Nat) (S:ASt) (Q:Exit×AFr×ASt→Prop) :
 (aLoad EPu 4 (AV.ptr (some (k0,28))) S=some (AV.bool false,S)∧Q (Exit.normal,xFr [(0,AV.ptr (some (d,0))),(3,AV.ptr (some (k0,0))),(6,AV.ptr (some (k1,0)))] 76,S)) =
 (tPe d k0 k1 S).allY (fun r=>Q (rawR [0,3,6] r)) (An.v (AV.bool false,S) An.nil):=by kernel_rfl
theorem vcPf (q:CallT) (d:Nat) (k0:Nat) (k1:Nat) (nu:Nat) (ho:Nat) (BL:List Nat) (S:ASt) (S1:ASt) (Q:Exit×AFr×ASt→Prop) :
 (aLoad EPu 24 (AV.ptr (some (k0,30))) S=some (AV.int IntKind.u64 (Int.ofNat nu),S)∧still S (aBin EPu BinOp.neq 24 (Operand.tmp 49) (Operand.const (Value.int IntKind.u64 0)) (AV.int IntKind.u64 (Int.ofNat nu)) (AV.int IntKind.u64 (Int.ofNat 0)))=some (AV.bool true,S)∧aLoad EPu 24 (AV.ptr (some (k0,30))) (ASt.mk S.h (S.next+11))=some (AV.int IntKind.u64 (Int.ofNat nu),ASt.mk S.h (S.next+11))∧still (ASt.mk S.h (S.next+11)) (aBin EPu BinOp.rem 24 (Operand.tmp 52) (Operand.const (Value.int IntKind.u64 4)) (AV.int IntKind.u64 (Int.ofNat nu)) (AV.int IntKind.u64 (Int.ofNat 4)))=some (AV.int IntKind.u64 (Int.ofNat (nu % 4)),ASt.mk S.h (S.next+11))∧still (ASt.mk S.h (S.next+11)) (aBin EPu BinOp.add 24 (Operand.const (Value.int IntKind.u64 5)) (Operand.tmp 53) (AV.int IntKind.u64 (Int.ofNat 5)) (AV.int IntKind.u64 (Int.ofNat (nu % 4))))=some (AV.int IntKind.u64 (Int.ofNat (5+nu % 4)),ASt.mk S.h (S.next+11))∧aLoad EPu 24 (AV.ptr (some (k0,30))) (ASt.mk S.h (S.next+11))=some (AV.int IntKind.u64 (Int.ofNat nu),ASt.mk S.h (S.next+11))∧aLoad EPu 34 (AV.ptr (some (k0,31))) (ASt.mk S.h (S.next+11))=some (AV.int IntKind.u16 (Int.ofNat ho),ASt.mk S.h (S.next+11))∧(M EPu (drawA EPu) (onlyC [53,24,60,61,62,63,19,40] q) 57).call 63 [AV.int IntKind.u64 (Int.ofNat nu),AV.int IntKind.u16 (Int.ofNat ho)] (ASt.mk S.h (S.next+11))=some (AV.agg (bl BL),ASt.mk S.h (S.next+11))∧still (ASt.mk S.h (S.next+11)) (aIndexAddr EPu 117 (AV.ptr (some (k1,0))) (AV.int IntKind.u64 (Int.ofNat (5+nu % 4))))=some (AV.ptr (some (k1,(5+nu % 4)*256)),ASt.mk S.h (S.next+11))∧Option.map (fun s=>(undefA,s)) (aStore EPu 54 (AV.ptr (some (k1,(5+nu % 4)*256))) (AV.agg (bl BL)) (ASt.mk S.h (S.next+11)))=some (AV.tuple [],S1)∧holdsO [(fstO (aLoad EPu 24 (AV.ptr (some (k0,30))) (ASt.mk S.h (S.next+11))),AV.int IntKind.u64 (Int.ofNat nu))]∧Q (Exit.normal,xFr [(0,AV.ptr (some (d,0))),(3,AV.ptr (some (k0,0))),(6,AV.ptr (some (k1,0)))] 76,S1)) =
 (tPf q d k0 k1 nu ho BL S S1).allY (fun r=>Q (rawR [0,3,6] r)) (An.v (AV.int IntKind.u64 (Int.ofNat nu),S) (An.v (AV.bool true,S) (An.v (AV.int IntKind.u64 (Int.ofNat nu),ASt.mk S.h (S.next+11)) (An.v (AV.int IntKind.u64 (Int.ofNat (nu % 4)),ASt.mk S.h (S.next+11)) (An.v (AV.int IntKind.u64 (Int.ofNat (5+nu % 4)),ASt.mk S.h (S.next+11)) (An.v (AV.int IntKind.u64 (Int.ofNat nu),ASt.mk S.h (S.next+11)) (An.v (AV.int IntKind.u16 (Int.ofNat ho),ASt.mk S.h (S.next+11)) (An.v (AV.agg (bl BL),ASt.mk S.h (S.next+11)) (An.v (AV.ptr (some (k1,(5+nu % 4)*256)),ASt.mk S.h (S.next+11)) (An.v (AV.tuple [],S1) An.nil)))))))))):=by kernel_rfl
theorem vcPg (d:Nat) (k0:Nat) (k1:Nat) (nu:Nat) (S:ASt) (Q:Exit×AFr×ASt→Prop) :
 (aLoad EPu 24 (AV.ptr (some (k0,30))) S=some (AV.int IntKind.u64 (Int.ofNat nu),S)∧still S (aBin EPu BinOp.neq 24 (Operand.tmp 49) (Operand.const (Value.int IntKind.u64 0)) (AV.int IntKind.u64 (Int.ofNat nu)) (AV.int IntKind.u64 (Int.ofNat 0)))=some (AV.bool false,S)∧Q (Exit.normal,xFr [(0,AV.ptr (some (d,0))),(3,AV.ptr (some (k0,0))),(6,AV.ptr (some (k1,0)))] 76,S)) =
 (tPg d k0 k1 nu S).allY (fun r=>Q (rawR [0,3,6] r)) (An.v (AV.int IntKind.u64 (Int.ofNat nu),S) (An.v (AV.bool false,S) An.nil)):=by kernel_rfl
theorem vcPh (d:Nat) (k0:Nat) (k1:Nat) (R:List AV) (S:ASt) (Q:Exit×AFr×ASt→Prop) :
 (aLoad EPu 117 (AV.ptr (some (k1,0))) S=some (AV.agg R,S)∧Q (Exit.normal,xFr [(0,AV.ptr (some (d,0))),(61,AV.agg R),(62,AV.int IntKind.i64 (Int.ofNat 0))] 76,S)) =
 (tPh d k0 k1 R S).allY (fun r=>Q (rawR [0,61,62] r)) (An.v (AV.agg R,S) An.nil):=by kernel_rfl
theorem vcPi (q:CallT) (d:Nat) (i:Nat) (k2:Nat) (B:List Nat) (R:List AV) (S:ASt) (S1:ASt) (S2:ASt) (S3:ASt) (Q:Exit×AFr×ASt→Prop) :
 (still S (aBin EPu BinOp.lss 3 (Operand.tmp 62) (Operand.const (Value.int IntKind.i64 9)) (AV.int IntKind.i64 (Int.ofNat i)) (AV.int IntKind.i64 (Int.ofNat 9)))=some (AV.bool true,S)∧still S (aIndex EPu 117 (AV.agg R) (AV.int IntKind.i64 (Int.ofNat i)))=some (AV.agg (bl B),S)∧aAlloc EPu 54 S=some (AV.ptr (some (k2,0)),S1)∧Option.map (fun s=>(undefA,s)) (aStore EPu 54 (AV.ptr (some (k2,0))) (AV.agg (bl B)) S1)=some (AV.tuple [],S2)∧aLoad EPu 54 (AV.ptr (some (k2,0))) S2=some (AV.agg (bl B),S2)∧(M EPu (drawA EPu) (onlyC [53,24,60,61,62,63,19,40] q) 53).call 19 [AV.ptr (some (d,0)),AV.int IntKind.i64 (Int.ofNat i),AV.agg (bl B)] S2=some (AV.int IntKind.i64 (Int.ofNat 0),S3)∧still S3 (aBin EPu BinOp.add 3 (Operand.tmp 62) (Operand.const (Value.int IntKind.i64 1)) (AV.int IntKind.i64 (Int.ofNat i)) (AV.int IntKind.i64 (Int.ofNat 1)))=some (AV.int IntKind.i64 (Int.ofNat (i+1)),S3)∧Q (Exit.normal,xFr [(0,AV.ptr (some (d,0))),(61,AV.agg R),(62,AV.int IntKind.i64 (Int.ofNat (i+1)))] 76,S3)) =
 (tPi q d i k2 B R S S1 S2 S3).allY (fun r=>Q (rawR [0,61,62] r)) (An.v (AV.bool true,S) (An.v (AV.agg (bl B),S) (An.v (AV.ptr (some (k2,0)),S1) (An.v (AV.tuple [],S2) (An.v (AV.agg (bl B),S2) (An.v (AV.int IntKind.i64 (Int.ofNat 0),S3) (An.v (AV.int IntKind.i64 (Int.ofNat (i+1)),S3) An.nil))))))):=by kernel_rfl
theorem vcPj (d:Nat) (R:List AV) (S:ASt) (Q:Exit×AFr×ASt→Prop) :
 (still S (aBin EPu BinOp.lss 3 (Operand.tmp 62) (Operand.const (Value.int IntKind.i64 9)) (AV.int IntKind.i64 (Int.ofNat 9)) (AV.int IntKind.i64 (Int.ofNat 9)))=some (AV.bool false,S)∧Q (Exit.exit 1,xFr [(0,AV.ptr (some (d,0)))] 76,S)) =
 (tPj d R S).allY (fun r=>Q (rawR [0] r)) (An.v (AV.bool false,S) An.nil):=by kernel_rfl
theorem vcPk (q:CallT) (d:Nat) (S:ASt) (S1:ASt) (Q:Exit×AFr×ASt→Prop) :
 ((M EPu (drawA EPu) (onlyC [53,24,60,61,62,63,19,40] q) 58).call 40 [AV.ptr (some (d,0))] S=some (AV.int IntKind.i64 (Int.ofNat 0),S1)∧Q (Exit.ret,xFr [(4,AV.int IntKind.i64 (Int.ofNat 0))] 76,S1)) =
 (tPk q d S S1).allY (fun r=>Q (rawR [4] r)) (An.v (AV.int IntKind.i64 (Int.ofNat 0),S1) An.nil):=by kernel_rfl
end Go.Proofs.YtiafochainjglaaGreatDoor.drp.pu
end

section
open Go Go.Ax Go.Proofs
namespace Go.Proofs.YtiafochainjglaaGreatDoor.drp.pu
open cd cd2 cd3 cd4 cd5 cd9 oo my
set_option linter.unusedVariables false
theorem EY2ok:Env.Ok Tryz.prog EY2:=envEx_ok (xs:=[]) ⟨⟨Tryz.func24,Tryz.call24⟩,⟨Tryz.func11,Tryz.call11⟩,⟨Tryz.func53,Tryz.call53⟩,⟨Tryz.func120,Tryz.call120⟩,trivial⟩ trivial (by kernel_rfl)
section
variable {Y:ASt} {a b:Nat} {z:Int} {x y:Operand}
theorem lssZ:still Y (aBin EY2 .lss 3 x y (.int .i64 z) (.int .i64 (.ofNat 1)))=some (.bool (decide (z<1)),Y):=by
 have e:aBin EY2 .lss 3 x y (.int .i64 z) (.int .i64 (.ofNat 1))=some (.bool (ltF z (.ofNat 1))):=by kernel_rfl
 rw[ltF_eq] at e
 exact still_of e
theorem gtrZ:still Y (aBin EY2 .gtr 3 x y (.int .i64 z) (.int .i64 (.ofNat 64)))=some (.bool (decide ((64:Int)<z)),Y):=by
 have e:aBin EY2 .gtr 3 x y (.int .i64 z) (.int .i64 (.ofNat 64))=some (.bool (ltF (.ofNat 64) z)):=by kernel_rfl
 rw[ltF_eq] at e
 exact still_of e
theorem neqZ:still Y (aBin EY2 .neq 24 x y (.int .u64 (.ofNat a)) (.int .u64 (.ofNat 0)))=some (.bool (!decide (a=0)),Y):=by
 have e:aBin EY2 .neq 24 x y (.int .u64 (.ofNat a)) (.int .u64 (.ofNat 0))=some (.bool (!eqF (.ofNat a) (.ofNat 0))):=by kernel_rfl
 rw[eqF_nn] at e
 exact still_of e
theorem eqlZ:still Y (aBin EY2 .eql 24 x y (.int .u64 (.ofNat a)) (.int .u64 (.ofNat 0)))=some (.bool (decide (a=0)),Y):=by
 have e:aBin EY2 .eql 24 x y (.int .u64 (.ofNat a)) (.int .u64 (.ofNat 0))=some (.bool (eqF (.ofNat a) (.ofNat 0))):=by kernel_rfl
 rw[eqF_nn] at e
 exact still_of e
theorem eqlH:still Y (aBin EY2 .eql 34 x y (.int .u16 (.ofNat a)) (.int .u16 (.ofNat 0)))=some (.bool (decide (a=0)),Y):=by
 have e:aBin EY2 .eql 34 x y (.int .u16 (.ofNat a)) (.int .u16 (.ofNat 0))=some (.bool (eqF (.ofNat a) (.ofNat 0))):=by kernel_rfl
 rw[eqF_nn] at e
 exact still_of e
theorem gtrN:still Y (aBin EY2 .gtr 24 x y (.int .u64 (.ofNat a)) (.int .u64 (.ofNat 0)))=some (.bool (!decide (a=0)),Y):=by
 have e:aBin EY2 .gtr 24 x y (.int .u64 (.ofNat a)) (.int .u64 (.ofNat 0))=some (.bool (ltF (.ofNat 0) (.ofNat a))):=by kernel_rfl
 have:decide (0<a)=!decide (a=0):=by
  by_cases h:a=0
  ·subst h;rfl
  ·rw[decide_eq_false h,decide_eq_true (by omega)];rfl
 rw[ltF_nn,this] at e
 exact still_of e
end
def supI (s:Int) (a b:Nat):Bool:=match s with
 | .ofNat n=>supM n a b
 | .negSucc _=>false
noncomputable def EMy:Env:=envEx Tryz.prog [0,3,4,5,23,24,25,27,28,29] [(76,Tryz.f76),(48,Tryz.f48)] []
theorem EMyok:Env.Ok Tryz.prog EMy:=envEx_ok (xs:=[]) ⟨⟨Tryz.func76,Tryz.call76⟩,⟨Tryz.func48,Tryz.call48⟩,trivial⟩ trivial (by kernel_rfl)
theorem sG_p (s:Int) (c:Bool) (x:Nat→Nat):∀v,v∈sG s c x→∀k,refsV k v:=fun v hv k=>by
 simp only[sG,List.mem_cons,List.not_mem_nil,or_false] at hv
 rcases hv with rfl | rfl | rfl | rfl | rfl | rfl | rfl<;>simp[refsV]
theorem tL_p (Z:Nat→Int):∀v,v∈cd6.tL Z→∀k,refsV k v:=fun v hv k=>by
 unfold cd6.tL at hv
 rcases List.mem_cons.1 hv with rfl | hv
 ·simp[refsV]
 ·rcases List.mem_append.1 hv with hv | hv
  ·obtain⟨i,_,rfl⟩:=List.mem_map.1 hv
   simp[refsV]
  ·simp only[List.mem_cons,List.not_mem_nil,or_false] at hv
   rcases hv with rfl | rfl<;>simp[refsV]
theorem mG_p (b s:Int) (c:Bool) (x:Nat→Nat) (Z:Nat→Int) (t:Nat) (mk:Bool) (se nu ho:Nat):∀v,v∈mG b s c x Z t mk se nu ho→∀k,refsV k v:=fun v hv k=>by
 unfold mG at hv
 rcases List.mem_cons.1 hv with rfl | hv
 ·simp[refsV]
 ·rcases List.mem_append.1 hv with hv | hv
  ·exact sG_p s c x v hv k
  ·rcases List.mem_append.1 hv with hv | hv
   ·exact tL_p Z v hv k
   ·simp only[List.mem_cons,List.not_mem_nil,or_false] at hv
    rcases hv with rfl | rfl | rfl | rfl | rfl<;>simp[refsV]
theorem sup_any (s:Int) (c:Bool) (x:Nat→Nat) (S:ASt):Call1 Tryz.prog 76 [.agg (sG s c x)] S (.bool (supI s (x 1) (x 2)),S)∧Call1 Tryz.prog 48 [.agg (sG s c x)] S (.bool (supI s (x 1) (x 2)),S):=by
 cases s with
 | ofNat n=>exact⟨mayO (s:=n) (c:=c) (a:=x 1) (b:=x 2) (h:=x 3) (k:=x 4) (n:=x 5) S,mayR (s:=n) (c:=c) (a:=x 1) (b:=x 2) (h:=x 3) (k:=x 4) (n:=x 5) S⟩
 | negSucc n =>
  have h1:AtMem Tryz.prog 76 [.agg (sG (.negSucc n) c x)] (mkSt [] 1) (.bool false):=AtMem.of_fst EMyok noSum_ok (n:=40) (by kernel_rfl)
  have h2:AtMem Tryz.prog 48 [.agg (sG (.negSucc n) c x)] (mkSt [] 1) (.bool false):=AtMem.of_fst EMyok noSum_ok (n:=40) (by kernel_rfl)
  have hp:∀a,a∈[AV.agg (sG (.negSucc n) c x)]→refsV 0 a:=fun a ha=>by rw[List.mem_singleton.1 ha];exact agg_p (fun v h=>sG_p _ _ _ v h _)
  exact⟨Call1.pureN h1 (bool_p ..) hp,Call1.pureN h2 (bool_p ..) hp⟩
theorem tab_any (Z:Nat→Int) (S:ASt):Call1 Tryz.prog 77 [.agg (cd6.tL Z)] S (.bool (cd6.mayL (cd6.tL Z)),S)∧Call1 Tryz.prog 49 [.agg (cd6.tL Z)] S (.bool (cd6.mayL (cd6.tL Z)),S) :=
 have hp:∀a,a∈[AV.agg (cd6.tL Z)]→refsV 0 a:=fun a ha=>by rw[List.mem_singleton.1 ha];exact agg_p (fun v h=>tL_p _ v h _)
 ⟨Call1.pureN (n:=0) (cd6.at50 Z) (bool_p ..) hp,Call1.pureN (n:=0) (cd6.at54 Z) (bool_p ..) hp⟩
def mayG (b s:Int) (x:Nat→Nat) (Z:Nat→Int) (mk:Bool) (se nu ho:Nat):Bool :=
 !decide (b<1) && (!decide ((64:Int)<b) && (supI s (x 1) (x 2) && (cd6.mayL (cd6.tL Z) && (!beyS se b.toNat && ((mk || decide (se=0)) && (!decide (nu=0) || decide (ho=0)))))))
theorem may_any (b s:Int) (c:Bool) (x:Nat→Nat) (Z:Nat→Int) (t:Nat) (mk:Bool) (se nu ho:Nat) (hse:se<18446744073709551616) (S:ASt) :
  Call1 Tryz.prog 24 [.agg (mG b s c x Z t mk se nu ho)] S (.bool (mayG b s x Z mk se nu ho),S)∧Call1 Tryz.prog 11 [.agg (mG b s c x Z t mk se nu ho)] S (.bool (mayG b s x Z mk se nu ho),S):=by
 have hp:∀v,v∈[AV.agg (mG b s c x Z t mk se nu ho)]→refsV 0 v:=fun v hv=>by rw[List.mem_singleton.1 hv];exact agg_p (fun v h=>mG_p _ _ _ _ _ _ _ _ _ _ v h _)
 suffices h:AtMem Tryz.prog 24 [.agg (mG b s c x Z t mk se nu ho)] (mkSt [] 1) (.bool (mayG b s x Z mk se nu ho))∧AtMem Tryz.prog 11 [.agg (mG b s c x Z t mk se nu ho)] (mkSt [] 1) (.bool (mayG b s x Z mk se nu ho)) from
  ⟨Call1.pureN h.1 (bool_p ..) hp,Call1.pureN h.2 (bool_p ..) hp⟩
 by_cases hb:b<1∨64<b
 ·have e:mayG b s x Z mk se nu ho=false:=by
   unfold mayG
   rcases hb with h | h
   ·rw[decide_eq_true h];rfl
   ·rw[decide_eq_true h];simp
  rw[e]
  by_cases h1:b<1
  ·exact⟨AtMem.of_tm EY2ok (onlyC_ok noSum_ok) (Eq.mp (vcMO noSum b s c x Z t mk se nu ho true false false false false false false false (fun r=>r.1=.bool false)) ⟨by rw[lssZ,decide_eq_true h1],ifB_mk (fun _=>rfl) (fun h=>by cases h)⟩),
    AtMem.of_tm EY2ok (onlyC_ok noSum_ok) (Eq.mp (vcMR noSum b s c x Z t mk se nu ho true false false false false false false false (fun r=>r.1=.bool false)) ⟨by rw[lssZ,decide_eq_true h1],ifB_mk (fun _=>rfl) (fun h=>by cases h)⟩)⟩
  ·have h2:64<b:=by omega
   exact⟨AtMem.of_tm EY2ok (onlyC_ok noSum_ok) (Eq.mp (vcMO noSum b s c x Z t mk se nu ho false true false false false false false false (fun r=>r.1=.bool false)) ⟨by rw[lssZ,decide_eq_false h1],ifB_mk (fun h=>by cases h) (fun _=>⟨by rw[gtrZ,decide_eq_true h2],ifB_mk (fun _=>rfl) (fun h=>by cases h)⟩)⟩),
    AtMem.of_tm EY2ok (onlyC_ok noSum_ok) (Eq.mp (vcMR noSum b s c x Z t mk se nu ho false true false false false false false false (fun r=>r.1=.bool false)) ⟨by rw[lssZ,decide_eq_false h1],ifB_mk (fun h=>by cases h) (fun _=>⟨by rw[gtrZ,decide_eq_true h2],ifB_mk (fun _=>rfl) (fun h=>by cases h)⟩)⟩)⟩
 obtain⟨k,rfl⟩:∃k:Nat,b=.ofNat k:=⟨b.toNat,by simp only[Int.ofNat_eq_natCast];omega⟩
 have h1:¬((Int.ofNat k)<1):=fun h=>hb (.inl h)
 have h2:¬((64:Int)<Int.ofNat k):=fun h=>hb (.inr h)
 have hk2:k≤64:=by simp only[Int.ofNat_eq_natCast] at h2;omega
 have e:mayG (.ofNat k) s x Z mk se nu ho=(supI s (x 1) (x 2) && (cd6.mayL (cd6.tL Z) && (!beyS se k && ((mk || decide (se=0)) && (!decide (nu=0) || decide (ho=0)))))):=by
  unfold mayG
  rw[decide_eq_false h1,decide_eq_false h2];rfl
 rw[e]
 have hokO:=orC_ok (pureC_ok fun S=>(sup_any s c x S).1) (orC_ok (pureC_ok fun S=>(tab_any Z S).1) (pureC_ok fun S=>none_p S se k))
 have hokR:=orC_ok (pureC_ok fun S=>(sup_any s c x S).2) (orC_ok (pureC_ok fun S=>(tab_any Z S).2) (pureC_ok fun S=>bey_p S hse hk2))
 generalize supI s (x 1) (x 2)=a3 at hokO hokR ⊢
 generalize cd6.mayL (cd6.tL Z)=a4 at hokO hokR ⊢
 generalize beyS se k=a5 at hokO hokR ⊢
 obtain⟨a6,ha6⟩:∃a,a=decide (se=0):=⟨_,rfl⟩
 obtain⟨a7,ha7⟩:∃a,a=decide (nu=0):=⟨_,rfl⟩
 obtain⟨a8,ha8⟩:∃a,a=decide (ho=0):=⟨_,rfl⟩
 rw[←ha6,←ha7,←ha8]
 constructor
 ·refine AtMem.of_tm EY2ok (onlyC_ok hokO) (Eq.mp (vcMO _ (.ofNat k) s c x Z t mk se nu ho false false a3 a4 a5 (!a6) (!a7) a8 (fun r=>r.1=.bool (a3 && (a4 && (!a5 && ((mk || a6) && (!a7 || a8))))))) ?_)
  have fin:∀v,v=(a3 && (a4 && (!a5 && ((mk || a6) && (!a7 || a8)))))→AV.bool v=.bool (a3 && (a4 && (!a5 && ((mk || a6) && (!a7 || a8))))):=fun v h=>by rw[h]
  exact⟨by rw[lssZ,decide_eq_false h1],ifB_mk (fun h=>by cases h) (fun _=>⟨by rw[gtrZ,decide_eq_false h2],ifB_mk (fun h=>by cases h) (fun _=>⟨ca (orC_l (pureC_at ..)),ifB_mk (fun g3=>⟨ca (orC_r (pureC_no (by decide)) (orC_l (pureC_at ..))),ifB_mk (fun g4=>⟨ca (orC_r (pureC_no (by decide)) (orC_r (pureC_no (by decide)) (pureC_at ..))),
   ifB_mk (fun g5=>fin _ (by rw[g5];simp)) (fun g5=>ifB_mk (fun gm=>⟨by rw[ha6];exact neqZ,ifB_mk (fun g6=>fin _ (by revert gm g6;cases mk<;>cases a6<;>simp)) (fun g6=>⟨by rw[ha7];exact neqZ,ifB_mk (fun g7=>fin _ (by revert g3 g4 g5 g6 g7;cases a3<;>cases a4<;>cases a5<;>cases a6<;>cases a7<;>simp)) (fun g7=>⟨by rw[ha8];exact eqlH,fin _ (by revert g3 g4 g5 g6 g7;cases a3<;>cases a4<;>cases a5<;>cases a6<;>cases a7<;>simp)⟩)⟩)⟩)
    (fun gm=>⟨by rw[ha7];exact neqZ,ifB_mk (fun g7=>fin _ (by revert g3 g4 g5 gm g7;cases a3<;>cases a4<;>cases a5<;>cases mk<;>cases a7<;>simp)) (fun g7=>⟨by rw[ha8];exact eqlH,fin _ (by revert g3 g4 g5 gm g7;cases a3<;>cases a4<;>cases a5<;>cases mk<;>cases a7<;>simp)⟩)⟩))⟩) (fun g4=>fin _ (by rw[g4];simp))⟩) (fun g3=>fin _ (by rw[g3];rfl))⟩)⟩)⟩
 ·refine AtMem.of_tm EY2ok (onlyC_ok hokR) (Eq.mp (vcMR _ (.ofNat k) s c x Z t mk se nu ho false false a3 a4 a5 a6 (!a7) a8 (fun r=>r.1=.bool (a3 && (a4 && (!a5 && ((mk || a6) && (!a7 || a8))))))) ?_)
  have fin:∀v,v=(a3 && (a4 && (!a5 && ((mk || a6) && (!a7 || a8)))))→AV.bool v=.bool (a3 && (a4 && (!a5 && ((mk || a6) && (!a7 || a8))))):=fun v h=>by rw[h]
  exact⟨by rw[lssZ,decide_eq_false h1],ifB_mk (fun h=>by cases h) (fun _=>⟨by rw[gtrZ,decide_eq_false h2],ifB_mk (fun h=>by cases h) (fun _=>⟨ca (orC_l (pureC_at ..)),ifB_mk (fun g3=>⟨ca (orC_r (pureC_no (by decide)) (orC_l (pureC_at ..))),ifB_mk (fun g4=>⟨ca (orC_r (pureC_no (by decide)) (orC_r (pureC_no (by decide)) (pureC_at ..))),
   ifB_mk (fun g5=>fin _ (by rw[g5];simp)) (fun g5=>ifB_mk (fun gm=>⟨by rw[ha7];exact gtrN,ifB_mk (fun g7=>fin _ (by revert g3 g4 g5 gm g7;cases a3<;>cases a4<;>cases a5<;>cases mk<;>cases a7<;>simp)) (fun g7=>⟨by rw[ha8];exact eqlH,fin _ (by revert g3 g4 g5 gm g7;cases a3<;>cases a4<;>cases a5<;>cases mk<;>cases a7<;>simp)⟩)⟩)
    (fun gm=>⟨by rw[ha6];exact eqlZ,ifB_mk (fun g6=>⟨by rw[ha7];exact gtrN,ifB_mk (fun g7=>fin _ (by revert g3 g4 g5 g6 g7;cases a3<;>cases a4<;>cases a5<;>cases a6<;>cases a7<;>simp)) (fun g7=>⟨by rw[ha8];exact eqlH,fin _ (by revert g3 g4 g5 g6 g7;cases a3<;>cases a4<;>cases a5<;>cases a6<;>cases a7<;>simp)⟩)⟩) (fun g6=>fin _ (by revert gm g6;cases mk<;>cases a6<;>simp))⟩))⟩) (fun g4=>fin _ (by rw[g4];simp))⟩) (fun g3=>fin _ (by rw[g3];rfl))⟩)⟩)⟩
end Go.Proofs.YtiafochainjglaaGreatDoor.drp.pu
end
