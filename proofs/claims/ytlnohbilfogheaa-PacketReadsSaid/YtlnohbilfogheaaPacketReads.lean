/-
  PROVED HERE: 'Rows.PacketReadsSaid': for every row of bytes the call of the law's function returns true, and the row reads as it did. No condition. THE WALK is a run of the function's text in an abstract machine (the texts PrA to PrF show that it is sound), with the row open; packet.Of and the document's own reading by contracts of their own (the texts Rd, Rr; both hashes: QsA to QsR, Qp).
-/
import Derived.Test.YtlnohbilfogheaaRr
import Derived.KernelRfl
import Derived.Test.YtlnohbilfogheaaRd
section
open Go Go.Ax Go.Proofs.Ytlnohbilfogheaa
namespace Go.Proofs.Ytlnohbilfogheaa.pre
open Go.Proofs.Ytlnohbilfogheaa.rdr (fl0 nI)
set_option linter.unusedVariables false
noncomputable def fnsS : List (Nat × Func) := [(27, Try.f27)]
noncomputable def ES : Env := envEx Try.prog [0, 3, 4, 5, 9, 25, 28, 61, 63] fnsS []
noncomputable def flsS : List (Nat × Fl) := [(27, ⟨[9, 15, 22, 29, 36, 41, 44, 45], [], [], []⟩)]
def pI (k m t a s : Nat) (v : AV) : AV := .agg [.int .i64 (.ofNat k), .int .u64 (.ofNat m), .int .u64 (.ofNat t), .int .u64 (.ofNat a), .int .u64 (.ofNat s), v]
noncomputable def tS0 (k m t a s : Nat) : Tr (AV × ASt) := (TM ES noSum flsS fl0 60).call 27 [pI k m t a s (.slice none 0 (.known 0)), pI k m t a s (.slice none 0 (.known 0))] (mkSt [(0, .dead), (1, .dead)] 2)
noncomputable def tS1 (k m t a s n : Nat) (o o1 : AO) (x : List Nat) : Tr (AV × ASt) := (TM ES noSum flsS fl0 60).call 27 [pI k m t a s (.slice (some (0, 0)) n (.atl n)), pI k m t a s (.slice (some (1, 0)) n (.atl n))] (mkSt [(0, o), (1, o1)] 2)
noncomputable def fns0 : List (Nat × Func) := [(7, Try.f7), (23, Try.f23), (25, Try.f25), (26, Try.f26), (27, Try.f27), (60, Try.f60), (47, Try.f47), (61, Try.f61), (62, Try.f62), (63, Try.f63), (64, Try.f64), (93, Try.f93), (78, Try.f78)]
noncomputable def E0 : Env := envEx Try.prog [0, 3, 4, 5, 9, 25, 28, 33, 34, 61, 63, 66, 68, 106, 113, 115, 140, 141] fns0 []
noncomputable def sm0 (q : CallT) : CallT := onlyC [24] q
noncomputable def fls0 : List (Nat × Fl) := [(7, ⟨[58], [], [], []⟩)]
noncomputable def tE0 (q : CallT) : Tr (AV × ASt) := (TM E0 (sm0 q) fls0 fl0 60).call 7 [.slice none 0 (.known 0)] (mkSt [(0, .dead)] 1)
noncomputable def tE1 (q : CallT) : Tr (AV × ASt) := (TM E0 (sm0 q) fls0 fl0 60).call 7 [.slice0] (mkSt [(0, .dead)] 1)
noncomputable def vcS0_s0 (k m t a s : Nat) : ASt := mkSt [(0, .dead), (1, .dead), (2, .cells [.int .i64 (.ofNat k), .int .u64 (.ofNat m), .int .u64 (.ofNat t), .int .u64 (.ofNat a), .int .u64 (.ofNat s), .slice none 0 (.known 0)] true), (3, .cells [.int .i64 (.ofNat k), .int .u64 (.ofNat m), .int .u64 (.ofNat t), .int .u64 (.ofNat a), .int .u64 (.ofNat s), .slice none 0 (.known 0)] true)] 4
noncomputable def vcS0_s1 : ASt := mkSt [] 4
theorem vcS0 (k m t a s : Nat) (Q : AV × ASt → Prop) :
  (still (vcS0_s0 k m t a s) (aBin ES .eql 61 (.tmp 6) (.tmp 8) (.int .i64 (.ofNat k)) (.int .i64 (.ofNat k))) = some (.bool true, vcS0_s0 k m t a s) ∧ still (vcS0_s0 k m t a s) (aBin ES .eql 28 (.tmp 12) (.tmp 14) (.int .u64 (.ofNat m)) (.int .u64 (.ofNat m))) = some (.bool true, vcS0_s0 k m t a s) ∧ still (vcS0_s0 k m t a s) (aBin ES .eql 28 (.tmp 19) (.tmp 21) (.int .u64 (.ofNat t)) (.int .u64 (.ofNat t))) = some (.bool true, vcS0_s0 k m t a s) ∧ still (vcS0_s0 k m t a s) (aBin ES .eql 28 (.tmp 26) (.tmp 28) (.int .u64 (.ofNat a)) (.int .u64 (.ofNat a))) = some (.bool true, vcS0_s0 k m t a s) ∧ still (vcS0_s0 k m t a s) (aBin ES .eql 28 (.tmp 33) (.tmp 35) (.int .u64 (.ofNat s)) (.int .u64 (.ofNat s))) = some (.bool true, vcS0_s0 k m t a s) ∧ aConvert ES 25 9 (.slice none 0 (.known 0)) (vcS0_s0 k m t a s) = some (.str [], vcS0_s0 k m t a s) ∧ aConvert ES 25 9 (.slice none 0 (.known 0)) (vcS0_s0 k m t a s) = some (.str [], vcS0_s0 k m t a s) ∧ still (vcS0_s0 k m t a s) (aBin ES .eql 9 (.tmp 41) (.tmp 44) (.str []) (.str [])) = some (.bool true, vcS0_s0 k m t a s) ∧ Q (.bool true, vcS0_s1)) =
  (tS0 k m t a s).allY (fun r => Q (r.1, canS [] r.2)) (.v (.bool true, vcS0_s0 k m t a s) (.v (.bool true, vcS0_s0 k m t a s) (.v (.bool true, vcS0_s0 k m t a s) (.v (.bool true, vcS0_s0 k m t a s) (.v (.bool true, vcS0_s0 k m t a s) (.v (.str [], vcS0_s0 k m t a s) (.v (.str [], vcS0_s0 k m t a s) (.v (.bool true, vcS0_s0 k m t a s) .nil)))))))) := by kernel_rfl
noncomputable def vcS1_s0 (k m t a s n : Nat) (o o1 : AO) : ASt := mkSt [(0, o), (1, o1), (2, .cells [.int .i64 (.ofNat k), .int .u64 (.ofNat m), .int .u64 (.ofNat t), .int .u64 (.ofNat a), .int .u64 (.ofNat s), .slice (some (0, 0)) n (.atl n)] true), (3, .cells [.int .i64 (.ofNat k), .int .u64 (.ofNat m), .int .u64 (.ofNat t), .int .u64 (.ofNat a), .int .u64 (.ofNat s), .slice (some (1, 0)) n (.atl n)] true)] 4
noncomputable def vcS1_s1 : ASt := mkSt [] 4
theorem vcS1 (k m t a s n : Nat) (o o1 : AO) (x : List Nat) (Q : AV × ASt → Prop) :
  (still (vcS1_s0 k m t a s n o o1) (aBin ES .eql 61 (.tmp 6) (.tmp 8) (.int .i64 (.ofNat k)) (.int .i64 (.ofNat k))) = some (.bool true, vcS1_s0 k m t a s n o o1) ∧ still (vcS1_s0 k m t a s n o o1) (aBin ES .eql 28 (.tmp 12) (.tmp 14) (.int .u64 (.ofNat m)) (.int .u64 (.ofNat m))) = some (.bool true, vcS1_s0 k m t a s n o o1) ∧ still (vcS1_s0 k m t a s n o o1) (aBin ES .eql 28 (.tmp 19) (.tmp 21) (.int .u64 (.ofNat t)) (.int .u64 (.ofNat t))) = some (.bool true, vcS1_s0 k m t a s n o o1) ∧ still (vcS1_s0 k m t a s n o o1) (aBin ES .eql 28 (.tmp 26) (.tmp 28) (.int .u64 (.ofNat a)) (.int .u64 (.ofNat a))) = some (.bool true, vcS1_s0 k m t a s n o o1) ∧ still (vcS1_s0 k m t a s n o o1) (aBin ES .eql 28 (.tmp 33) (.tmp 35) (.int .u64 (.ofNat s)) (.int .u64 (.ofNat s))) = some (.bool true, vcS1_s0 k m t a s n o o1) ∧ aConvert ES 25 9 (.slice (some (0, 0)) n (.atl n)) (vcS1_s0 k m t a s n o o1) = some (.str x, vcS1_s0 k m t a s n o o1) ∧ aConvert ES 25 9 (.slice (some (1, 0)) n (.atl n)) (vcS1_s0 k m t a s n o o1) = some (.str x, vcS1_s0 k m t a s n o o1) ∧ still (vcS1_s0 k m t a s n o o1) (aBin ES .eql 9 (.tmp 41) (.tmp 44) (.str x) (.str x)) = some (.bool true, vcS1_s0 k m t a s n o o1) ∧ Q (.bool true, vcS1_s1)) =
  (tS1 k m t a s n o o1 x).allY (fun r => Q (r.1, canS [] r.2)) (.v (.bool true, vcS1_s0 k m t a s n o o1) (.v (.bool true, vcS1_s0 k m t a s n o o1) (.v (.bool true, vcS1_s0 k m t a s n o o1) (.v (.bool true, vcS1_s0 k m t a s n o o1) (.v (.bool true, vcS1_s0 k m t a s n o o1) (.v (.str x, vcS1_s0 k m t a s n o o1) (.v (.str x, vcS1_s0 k m t a s n o o1) (.v (.bool true, vcS1_s0 k m t a s n o o1) .nil)))))))) := by kernel_rfl
noncomputable def vcZ0_s0 : ASt := mkSt [(0, .dead), (1, .cells z6c true), (2, .cells [.slice none 0 (.known 0), .bool true, .bool true] true), (3, .cells z6c true), (4, .cells z6c true), (5, .cells z6c true), (6, .cells z6c true), (7, .cells z6c true), (8, .cells z6c true)] 9
noncomputable def vcZ0_s1 : ASt := mkSt [] 9
theorem vcZ0 (q : CallT) (Q : AV × ASt → Prop) :
  ((M E0 (drawA E0) (sm0 q) 51).call 24 [] (vcZ0_s0) = some (.bool true, vcZ0_s0) ∧ Q (.bool true, vcZ0_s1)) =
  (tE0 q).allY (fun r => Q (r.1, canS [] r.2)) (.v (.bool true, vcZ0_s0) .nil) := by kernel_rfl
noncomputable def vcZ1_s0 : ASt := mkSt [(0, .dead), (1, .cells z6c true), (2, .cells [.slice none 0 (.known 0), .bool true, .bool true] true), (3, .cells z6c true), (4, .cells z6c true), (5, .cells z6c true), (6, .cells z6c true), (7, .cells z6c true), (8, .cells z6c true)] 9
noncomputable def vcZ1_s1 : ASt := mkSt [] 9
theorem vcZ1 (q : CallT) (Q : AV × ASt → Prop) :
  ((M E0 (drawA E0) (sm0 q) 51).call 24 [] (vcZ1_s0) = some (.bool true, vcZ1_s0) ∧ Q (.bool true, vcZ1_s1)) =
  (tE1 q).allY (fun r => Q (r.1, canS [] r.2)) (.v (.bool true, vcZ1_s0) .nil) := by kernel_rfl
end Go.Proofs.Ytlnohbilfogheaa.pre
namespace Go.Proofs.Ytlnohbilfogheaa.prd
set_option linter.unusedVariables false
open Go.Proofs.Ytlnohbilfogheaa.rdr (fl0 nI)
noncomputable def fns7 : List (Nat × Func) := [(7, Try.f7), (23, Try.f23)]
noncomputable def E7 : Env := envEx Try.prog [0, 3, 4, 5, 25, 28, 33, 61, 63, 66, 68] fns7 []
noncomputable def sm7 (q : CallT) : CallT := onlyC [24, 25, 26, 27] q
noncomputable def c7 : Code := Option.getD Try.f7.body .skip
def pI (k m t a s : Nat) (v : AV) : AV := .agg [.int .i64 (.ofNat k), .int .u64 (.ofNat m), .int .u64 (.ofNat t), .int .u64 (.ofNat a), .int .u64 (.ofNat s), v]
def pC (k m t a s : Nat) (v : AV) : AO := .cells [.int .i64 (.ofNat k), .int .u64 (.ofNat m), .int .u64 (.ofNat t), .int .u64 (.ofNat a), .int .u64 (.ofNat s), v] true
def nl : AV := .slice none 0 (.known 0)
def sP (n : Nat) : AV := .slice (some (5, 37)) n (.known n)
def sQ (n c : Nat) : AV := .slice (some (0, 37)) n (.atl c)
noncomputable def F0 (v : AV) : AFr := { m := putArgs [v] 0 .e, n := 60, defs := [] }
noncomputable def flP : Fl := ⟨[10, 12, 14, 17, 22], [], [11], []⟩
noncomputable def tPN (q : CallT) (n k m t a s : Nat) (R R1 R3 : AO) (e : Nat) (ok : Bool) : Tr (Exit × AFr × ASt) := (TM E7 (sm7 q) [] fl0 60).ex flP none (preC 4 c7) (F0 (.slice (some (0, 0)) n (.atl n))) (mkSt [(0, R)] 1)
noncomputable def tPD (q : CallT) (n k m t a s np cp : Nat) (R R1 R3 : AO) : Tr (Exit × AFr × ASt) := (TM E7 (sm7 q) [] fl0 60).ex flP none (preC 4 c7) (F0 (.slice (some (0, 0)) n (.atl n))) (mkSt [(0, R)] 1)
noncomputable def fr7 (n : Nat) (V5 V7 : AV) : AFr := xFr [(0, .slice (some (0, 0)) n (.atl n)), (2, .bool false), (3, .slice (some (1, 0)) n (.rest 1)), (4, .ptr (some (71, 0))), (5, V5), (6, .ptr (some (144, 0))), (7, V7)] 60
noncomputable def fr8 (n k : Nat) (V5 V7 : AV) : AFr := xFr [(0, .slice (some (0, 0)) n (.atl n)), (2, .bool false), (3, .slice (some (1, 0)) n (.rest 1)), (4, .ptr (some (71, 0))), (5, V5), (6, .ptr (some (144, 0))), (7, V7), (8, nI k)] 60
noncomputable def S7 (R R1 R3 p q : AO) : ASt := mkSt [(0, R), (1, R1), (5, R3), (71, p), (144, q)] 145
noncomputable def tI (n : Nat) (V5 V7 : AV) (R R1 R3 p p' : AO) : Tr (Exit × AFr × ASt) := (TM E7 noSum [] fl0 60).ex fl0 none (seqL (seqL (dropC 4 c7))) (fr7 n V5 V7) (S7 R R1 R3 p p')
noncomputable def L7 : Code := lopB (blkB (seqR (seqL (dropC 4 c7))))
noncomputable def tR (n k : Nat) (z : Int) (V5 V7 : AV) (R R1 R2 R3 p p' : AO) : Tr (Exit × AFr × ASt) := (TM E7 noSum [] fl0 60).ex ⟨[27, 35, 36, 38, 4095], [], [28], []⟩ none L7 (fr8 n k V5 V7) (S7 R R1 R3 p p')
noncomputable def tE0 (q : CallT) (n j k m t a s : Nat) (R R1 R3 : AO) : Tr (Exit × AFr × ASt) := (TM E7 (sm7 q) [] fl0 60).ex ⟨[41, 58], [], [], []⟩ none (dropC 5 c7) (fr8 n j (nI 0) (.bool true)) (S7 R R1 R3 (pC k m t a s nl) (pC k m t a s nl))
noncomputable def tE4 (q : CallT) (n j k m t a s : Nat) (R R1 R3 : AO) : Tr (Exit × AFr × ASt) := (TM E7 (sm7 q) [] fl0 60).ex ⟨[41, 58], [], [], []⟩ none (dropC 5 c7) (fr8 n j (nI 4) (.bool false)) (S7 R R1 R3 (pC k m t a s nl) (pC k m t a s nl))
noncomputable def tED (q : CallT) (n j k m t a s np cp : Nat) (R R1 R3 : AO) : Tr (Exit × AFr × ASt) := (TM E7 (sm7 q) [] fl0 60).ex ⟨[41, 58], [], [], []⟩ none (dropC 5 c7) (fr8 n j (nI 0) (.bool true)) (S7 R R1 R3 (pC k m t a s (sP np)) (pC k m t a s (sQ np cp)))
noncomputable def vcPN_s0 (R : AO) : ASt := mkSt [(0, R)] 1
noncomputable def vcPN_s1 (R R1 : AO) : ASt := mkSt [(0, R), (1, R1)] 2
noncomputable def vcPN_s2 (R R1 R3 : AO) : ASt := mkSt [(0, R), (1, R1), (5, R3)] 71
noncomputable def vcPN_s3 (k m t a s : Nat) (R R1 R3 : AO) : ASt := mkSt [(0, R), (1, R1), (5, R3), (71, .cells [.int .i64 (.ofNat k), .int .u64 (.ofNat m), .int .u64 (.ofNat t), .int .u64 (.ofNat a), .int .u64 (.ofNat s), .slice none 0 (.known 0)] true)] 72
noncomputable def vcPN_s4 (k m t a s : Nat) (R R1 R3 : AO) : ASt := mkSt [(0, R), (1, R1), (5, R3), (71, .cells [.int .i64 (.ofNat k), .int .u64 (.ofNat m), .int .u64 (.ofNat t), .int .u64 (.ofNat a), .int .u64 (.ofNat s), .slice none 0 (.known 0)] true)] 144
noncomputable def vcPN_s5 (k m t a s : Nat) (R R1 R3 : AO) : ASt := mkSt [(0, R), (1, R1), (5, R3), (71, .cells [.int .i64 (.ofNat k), .int .u64 (.ofNat m), .int .u64 (.ofNat t), .int .u64 (.ofNat a), .int .u64 (.ofNat s), .slice none 0 (.known 0)] true), (144, .cells [.int .i64 (.ofNat k), .int .u64 (.ofNat m), .int .u64 (.ofNat t), .int .u64 (.ofNat a), .int .u64 (.ofNat s), .slice none 0 (.known 0)] true)] 145
theorem vcPN (q : CallT) (n k m t a s : Nat) (R R1 R3 : AO) (e : Nat) (ok : Bool) (Q : Exit × AFr × ASt → Prop) (Q2 : Exit × Option AV → Prop) :
  (aBuiltinM E7 .len [25] [.slice (some (0, 0)) n (.atl n)] (vcPN_s0 R) = some (.int .i64 (.ofNat n), vcPN_s0 R) ∧ ifB (ltF (.ofNat 9000) (.ofNat n)) ((M E7 (drawA E7) (sm7 q) 54).call 24 [] (vcPN_s0 R) = some (.bool true, vcPN_s0 R) ∧ Q2 (.ret, some (.bool true))) (aBuiltinM E7 .append [25, 25] [.slice none 0 (.known 0), .slice (some (0, 0)) n (.atl n)] (vcPN_s0 R) = some (.slice (some (1, 0)) n (.rest 1), vcPN_s1 R R1) ∧ (M E7 (drawA E7) (sm7 q) 55).call 25 [.slice (some (1, 0)) n (.rest 1)] (vcPN_s1 R R1) = some (.tuple [.agg [.int .i64 (.ofNat k), .int .u64 (.ofNat m), .int .u64 (.ofNat t), .int .u64 (.ofNat a), .int .u64 (.ofNat s), .slice none 0 (.known 0)], .int .i64 (.ofNat e)], vcPN_s2 R R1 R3) ∧ (M E7 (drawA E7) (sm7 q) 55).call 26 [.slice (some (0, 0)) n (.atl n)] (vcPN_s3 k m t a s R R1 R3) = some (.tuple [.agg [.int .i64 (.ofNat k), .int .u64 (.ofNat m), .int .u64 (.ofNat t), .int .u64 (.ofNat a), .int .u64 (.ofNat s), .slice none 0 (.known 0)], .bool ok], vcPN_s4 k m t a s R R1 R3) ∧ Q (.normal, xFr [(0, .slice (some (0, 0)) n (.atl n)), (2, .bool false), (3, .slice (some (1, 0)) n (.rest 1)), (4, .ptr (some (71, 0))), (5, .int .i64 (.ofNat e)), (6, .ptr (some (144, 0))), (7, .bool ok)] 60, vcPN_s5 k m t a s R R1 R3))) =
  (tPN q n k m t a s R R1 R3 e ok).allY (mixQ E7 Try.f7 [0, 2, 3, 4, 5, 6, 7] [0, 1, 5, 71, 144] Q Q2) (.v (.int .i64 (.ofNat n), vcPN_s0 R) (.b (.v (.bool true, vcPN_s0 R) .nil) (.v (.slice (some (1, 0)) n (.rest 1), vcPN_s1 R R1) (.v (.tuple [.agg [.int .i64 (.ofNat k), .int .u64 (.ofNat m), .int .u64 (.ofNat t), .int .u64 (.ofNat a), .int .u64 (.ofNat s), .slice none 0 (.known 0)], .int .i64 (.ofNat e)], vcPN_s2 R R1 R3) (.v (.tuple [.agg [.int .i64 (.ofNat k), .int .u64 (.ofNat m), .int .u64 (.ofNat t), .int .u64 (.ofNat a), .int .u64 (.ofNat s), .slice none 0 (.known 0)], .bool ok], vcPN_s4 k m t a s R R1 R3) .nil))))) := by kernel_rfl
noncomputable def vcPD_s0 (R : AO) : ASt := mkSt [(0, R)] 1
noncomputable def vcPD_s1 (R R1 : AO) : ASt := mkSt [(0, R), (1, R1)] 2
noncomputable def vcPD_s2 (R R1 R3 : AO) : ASt := mkSt [(0, R), (1, R1), (5, R3)] 71
noncomputable def vcPD_s3 (k m t a s np : Nat) (R R1 R3 : AO) : ASt := mkSt [(0, R), (1, R1), (5, R3), (71, .cells [.int .i64 (.ofNat k), .int .u64 (.ofNat m), .int .u64 (.ofNat t), .int .u64 (.ofNat a), .int .u64 (.ofNat s), .slice (some (5, 37)) np (.known np)] true)] 72
noncomputable def vcPD_s4 (k m t a s np : Nat) (R R1 R3 : AO) : ASt := mkSt [(0, R), (1, R1), (5, R3), (71, .cells [.int .i64 (.ofNat k), .int .u64 (.ofNat m), .int .u64 (.ofNat t), .int .u64 (.ofNat a), .int .u64 (.ofNat s), .slice (some (5, 37)) np (.known np)] true)] 144
noncomputable def vcPD_s5 (k m t a s np cp : Nat) (R R1 R3 : AO) : ASt := mkSt [(0, R), (1, R1), (5, R3), (71, .cells [.int .i64 (.ofNat k), .int .u64 (.ofNat m), .int .u64 (.ofNat t), .int .u64 (.ofNat a), .int .u64 (.ofNat s), .slice (some (5, 37)) np (.known np)] true), (144, .cells [.int .i64 (.ofNat k), .int .u64 (.ofNat m), .int .u64 (.ofNat t), .int .u64 (.ofNat a), .int .u64 (.ofNat s), .slice (some (0, 37)) np (.atl cp)] true)] 145
theorem vcPD (q : CallT) (n k m t a s np cp : Nat) (R R1 R3 : AO) (Q : Exit × AFr × ASt → Prop) (Q2 : Exit × Option AV → Prop) :
  (aBuiltinM E7 .len [25] [.slice (some (0, 0)) n (.atl n)] (vcPD_s0 R) = some (.int .i64 (.ofNat n), vcPD_s0 R) ∧ ifB (ltF (.ofNat 9000) (.ofNat n)) ((M E7 (drawA E7) (sm7 q) 54).call 24 [] (vcPD_s0 R) = some (.bool true, vcPD_s0 R) ∧ Q2 (.ret, some (.bool true))) (aBuiltinM E7 .append [25, 25] [.slice none 0 (.known 0), .slice (some (0, 0)) n (.atl n)] (vcPD_s0 R) = some (.slice (some (1, 0)) n (.rest 1), vcPD_s1 R R1) ∧ (M E7 (drawA E7) (sm7 q) 55).call 25 [.slice (some (1, 0)) n (.rest 1)] (vcPD_s1 R R1) = some (.tuple [.agg [.int .i64 (.ofNat k), .int .u64 (.ofNat m), .int .u64 (.ofNat t), .int .u64 (.ofNat a), .int .u64 (.ofNat s), .slice (some (5, 37)) np (.known np)], .int .i64 (.ofNat 0)], vcPD_s2 R R1 R3) ∧ (M E7 (drawA E7) (sm7 q) 55).call 26 [.slice (some (0, 0)) n (.atl n)] (vcPD_s3 k m t a s np R R1 R3) = some (.tuple [.agg [.int .i64 (.ofNat k), .int .u64 (.ofNat m), .int .u64 (.ofNat t), .int .u64 (.ofNat a), .int .u64 (.ofNat s), .slice (some (0, 37)) np (.atl cp)], .bool true], vcPD_s4 k m t a s np R R1 R3) ∧ Q (.normal, xFr [(0, .slice (some (0, 0)) n (.atl n)), (2, .bool false), (3, .slice (some (1, 0)) n (.rest 1)), (4, .ptr (some (71, 0))), (5, .int .i64 (.ofNat 0)), (6, .ptr (some (144, 0))), (7, .bool true)] 60, vcPD_s5 k m t a s np cp R R1 R3))) =
  (tPD q n k m t a s np cp R R1 R3).allY (mixQ E7 Try.f7 [0, 2, 3, 4, 5, 6, 7] [0, 1, 5, 71, 144] Q Q2) (.v (.int .i64 (.ofNat n), vcPD_s0 R) (.b (.v (.bool true, vcPD_s0 R) .nil) (.v (.slice (some (1, 0)) n (.rest 1), vcPD_s1 R R1) (.v (.tuple [.agg [.int .i64 (.ofNat k), .int .u64 (.ofNat m), .int .u64 (.ofNat t), .int .u64 (.ofNat a), .int .u64 (.ofNat s), .slice (some (5, 37)) np (.known np)], .int .i64 (.ofNat 0)], vcPD_s2 R R1 R3) (.v (.tuple [.agg [.int .i64 (.ofNat k), .int .u64 (.ofNat m), .int .u64 (.ofNat t), .int .u64 (.ofNat a), .int .u64 (.ofNat s), .slice (some (0, 37)) np (.atl cp)], .bool true], vcPD_s4 k m t a s np R R1 R3) .nil))))) := by kernel_rfl
noncomputable def vcI_s0 (R R1 R3 p p' : AO) : ASt := mkSt [(0, R), (1, R1), (5, R3), (71, p), (144, p')] 145
theorem vcI (n : Nat) (V5 V7 : AV) (R R1 R3 p p' : AO) (Q : Exit × AFr × ASt → Prop) :
  (Q (.normal, xFr [(0, .slice (some (0, 0)) n (.atl n)), (2, .bool false), (3, .slice (some (1, 0)) n (.rest 1)), (4, .ptr (some (71, 0))), (5, V5), (6, .ptr (some (144, 0))), (7, V7), (8, .int .i64 (.ofNat 0))] 60, vcI_s0 R R1 R3 p p')) =
  (tI n V5 V7 R R1 R3 p p').allY (fun r => Q (canR [0, 2, 3, 4, 5, 6, 7, 8] [0, 1, 5, 71, 144] r)) (.nil) := by kernel_rfl
noncomputable def vcR_s0 (R R1 R3 p p' : AO) : ASt := mkSt [(0, R), (1, R1), (5, R3), (71, p), (144, p')] 145
noncomputable def vcR_s1 (R R2 R3 p p' : AO) : ASt := mkSt [(0, R), (1, R2), (5, R3), (71, p), (144, p')] 145
theorem vcR (n k : Nat) (z : Int) (V5 V7 : AV) (R R1 R2 R3 p p' : AO) (Q : Exit × AFr × ASt → Prop) :
  (aBuiltinM E7 .len [25] [.slice (some (1, 0)) n (.rest 1)] (vcR_s0 R R1 R3 p p') = some (.int .i64 (.ofNat n), vcR_s0 R R1 R3 p p') ∧ ifB (ltF (.ofNat k) (.ofNat n)) (still (vcR_s0 R R1 R3 p p') (aIndexAddr E7 25 (.slice (some (1, 0)) n (.rest 1)) (.int .i64 (.ofNat k))) = some (.ptr (some (1, k)), vcR_s0 R R1 R3 p p') ∧ aLoad E7 5 (.ptr (some (1, k))) (vcR_s0 R R1 R3 p p') = some (.int .u8 z, vcR_s0 R R1 R3 p p') ∧ still (vcR_s0 R R1 R3 p p') (aIndexAddr E7 25 (.slice (some (1, 0)) n (.rest 1)) (.int .i64 (.ofNat k))) = some (.ptr (some (1, k)), vcR_s0 R R1 R3 p p') ∧ Option.map (fun s => (undefA, s)) (aStore E7 5 (.ptr (some (1, k))) (.int .u8 (wrapF .u8 (z + .ofNat 1))) (vcR_s0 R R1 R3 p p')) = some (.tuple [], vcR_s1 R R2 R3 p p') ∧ Q (.normal, xFr [(0, .slice (some (0, 0)) n (.atl n)), (2, .bool false), (3, .slice (some (1, 0)) n (.rest 1)), (4, .ptr (some (71, 0))), (5, V5), (6, .ptr (some (144, 0))), (7, V7), (8, .int .i64 (wrapF .i64 (.ofNat k + .ofNat 1)))] 60, vcR_s1 R R2 R3 p p')) (Q (.exit 0, xFr [(0, .slice (some (0, 0)) n (.atl n)), (2, .bool false), (3, .slice (some (1, 0)) n (.rest 1)), (4, .ptr (some (71, 0))), (5, V5), (6, .ptr (some (144, 0))), (7, V7), (8, .int .i64 (.ofNat k))] 60, vcR_s0 R R1 R3 p p'))) =
  (tR n k z V5 V7 R R1 R2 R3 p p').allY (fun r => Q (canR [0, 2, 3, 4, 5, 6, 7, 8] [0, 1, 5, 71, 144] r)) (.v (.int .i64 (.ofNat n), vcR_s0 R R1 R3 p p') (.b (.v (.ptr (some (1, k)), vcR_s0 R R1 R3 p p') (.v (.int .u8 z, vcR_s0 R R1 R3 p p') (.v (.ptr (some (1, k)), vcR_s0 R R1 R3 p p') (.v (.tuple [], vcR_s1 R R2 R3 p p') .nil)))) .nil)) := by kernel_rfl
noncomputable def vcE0_s0 (k m t a s : Nat) (R R1 R3 : AO) : ASt := mkSt [(0, R), (1, R1), (5, R3), (71, .cells [.int .i64 (.ofNat k), .int .u64 (.ofNat m), .int .u64 (.ofNat t), .int .u64 (.ofNat a), .int .u64 (.ofNat s), .slice none 0 (.known 0)] true), (144, .cells [.int .i64 (.ofNat k), .int .u64 (.ofNat m), .int .u64 (.ofNat t), .int .u64 (.ofNat a), .int .u64 (.ofNat s), .slice none 0 (.known 0)] true)] 145
theorem vcE0 (q : CallT) (n j k m t a s : Nat) (R R1 R3 : AO) (Q : Exit × Option AV → Prop) :
  ((M E7 (drawA E7) (sm7 q) 58).call 27 [.agg [.int .i64 (.ofNat k), .int .u64 (.ofNat m), .int .u64 (.ofNat t), .int .u64 (.ofNat a), .int .u64 (.ofNat s), .slice none 0 (.known 0)], .agg [.int .i64 (.ofNat k), .int .u64 (.ofNat m), .int .u64 (.ofNat t), .int .u64 (.ofNat a), .int .u64 (.ofNat s), .slice none 0 (.known 0)]] (vcE0_s0 k m t a s R R1 R3) = some (.bool true, vcE0_s0 k m t a s R R1 R3) ∧ (M E7 (drawA E7) (sm7 q) 58).call 24 [] (vcE0_s0 k m t a s R R1 R3) = some (.bool true, vcE0_s0 k m t a s R R1 R3) ∧ Q (.ret, some (.bool true))) =
  (tE0 q n j k m t a s R R1 R3).allY (fun r => Q (r.1, ans (leaveA E7 Try.f7 r.2.1 r.2.2))) (.v (.bool true, vcE0_s0 k m t a s R R1 R3) (.v (.bool true, vcE0_s0 k m t a s R R1 R3) .nil)) := by kernel_rfl
noncomputable def vcE4_s0 (k m t a s : Nat) (R R1 R3 : AO) : ASt := mkSt [(0, R), (1, R1), (5, R3), (71, .cells [.int .i64 (.ofNat k), .int .u64 (.ofNat m), .int .u64 (.ofNat t), .int .u64 (.ofNat a), .int .u64 (.ofNat s), .slice none 0 (.known 0)] true), (144, .cells [.int .i64 (.ofNat k), .int .u64 (.ofNat m), .int .u64 (.ofNat t), .int .u64 (.ofNat a), .int .u64 (.ofNat s), .slice none 0 (.known 0)] true)] 145
theorem vcE4 (q : CallT) (n j k m t a s : Nat) (R R1 R3 : AO) (Q : Exit × Option AV → Prop) :
  ((M E7 (drawA E7) (sm7 q) 58).call 27 [.agg [.int .i64 (.ofNat k), .int .u64 (.ofNat m), .int .u64 (.ofNat t), .int .u64 (.ofNat a), .int .u64 (.ofNat s), .slice none 0 (.known 0)], .agg [.int .i64 (.ofNat k), .int .u64 (.ofNat m), .int .u64 (.ofNat t), .int .u64 (.ofNat a), .int .u64 (.ofNat s), .slice none 0 (.known 0)]] (vcE4_s0 k m t a s R R1 R3) = some (.bool true, vcE4_s0 k m t a s R R1 R3) ∧ (M E7 (drawA E7) (sm7 q) 58).call 24 [] (vcE4_s0 k m t a s R R1 R3) = some (.bool true, vcE4_s0 k m t a s R R1 R3) ∧ Q (.ret, some (.bool true))) =
  (tE4 q n j k m t a s R R1 R3).allY (fun r => Q (r.1, ans (leaveA E7 Try.f7 r.2.1 r.2.2))) (.v (.bool true, vcE4_s0 k m t a s R R1 R3) (.v (.bool true, vcE4_s0 k m t a s R R1 R3) .nil)) := by kernel_rfl
noncomputable def vcED_s0 (k m t a s np cp : Nat) (R R1 R3 : AO) : ASt := mkSt [(0, R), (1, R1), (5, R3), (71, .cells [.int .i64 (.ofNat k), .int .u64 (.ofNat m), .int .u64 (.ofNat t), .int .u64 (.ofNat a), .int .u64 (.ofNat s), .slice (some (5, 37)) np (.known np)] true), (144, .cells [.int .i64 (.ofNat k), .int .u64 (.ofNat m), .int .u64 (.ofNat t), .int .u64 (.ofNat a), .int .u64 (.ofNat s), .slice (some (0, 37)) np (.atl cp)] true)] 145
theorem vcED (q : CallT) (n j k m t a s np cp : Nat) (R R1 R3 : AO) (Q : Exit × Option AV → Prop) :
  ((M E7 (drawA E7) (sm7 q) 58).call 27 [.agg [.int .i64 (.ofNat k), .int .u64 (.ofNat m), .int .u64 (.ofNat t), .int .u64 (.ofNat a), .int .u64 (.ofNat s), .slice (some (5, 37)) np (.known np)], .agg [.int .i64 (.ofNat k), .int .u64 (.ofNat m), .int .u64 (.ofNat t), .int .u64 (.ofNat a), .int .u64 (.ofNat s), .slice (some (0, 37)) np (.atl cp)]] (vcED_s0 k m t a s np cp R R1 R3) = some (.bool true, vcED_s0 k m t a s np cp R R1 R3) ∧ (M E7 (drawA E7) (sm7 q) 58).call 24 [] (vcED_s0 k m t a s np cp R R1 R3) = some (.bool true, vcED_s0 k m t a s np cp R R1 R3) ∧ Q (.ret, some (.bool true))) =
  (tED q n j k m t a s np cp R R1 R3).allY (fun r => Q (r.1, ans (leaveA E7 Try.f7 r.2.1 r.2.2))) (.v (.bool true, vcED_s0 k m t a s np cp R R1 R3) (.v (.bool true, vcED_s0 k m t a s np cp R R1 R3) .nil)) := by kernel_rfl
end Go.Proofs.Ytlnohbilfogheaa.prd
end

section
open Go Go.Ax Go.Proofs.Ytlnohbilfogheaa Go.Proofs.Ytlnohbilfogheaa.pof
namespace Go.Proofs.Ytlnohbilfogheaa.prd
open Go.Proofs.Ytlnohbilfogheaa.rdr (fl0 nI nilV)
open Go.Proofs.Ytlnohbilfogheaa.rof (pkA resR EndsR RunsR aA)
set_option linter.unusedVariables false
theorem ESok : Env.Ok Try.prog pre.ES := envEx_ok (xs := []) ⟨⟨Try.func27, Try.call27⟩, trivial⟩ trivial (by kernel_rfl)
theorem convS {S : ASt} {v : AV} {l : List Nat} (h : SlB S v l) (hb : ∀ x, x ∈ l → x < 256) : aConvert pre.ES 25 9 v S = some (.str l, S) := by
  cases h with
  | nil => kernel_rfl
  | zero => kernel_rfl
  | @row i o n c cs rw _ h1 h2 =>
    have e : aConvert pre.ES 25 9 (.slice (some (i, o)) n c) S = (match S.h.get i with
      | some (.cells cs _) => match takeL cs o n with | some l => (match bytesL l with | some b => some (.str b, S) | none => none) | none => none
      | _ => none) := by kernel_rfl
    rw [e]
    simp only [h1, h2, bytesL_U l hb]
theorem e61 {S : ASt} {x y : Nat} (z : Int) : still S (aBin pre.ES .eql 61 (.tmp x) (.tmp y) (.int .i64 z) (.int .i64 z)) = some (.bool true, S) := by
  have e : aBin pre.ES .eql 61 (.tmp x) (.tmp y) (.int .i64 z) (.int .i64 z) = some (.bool (eqF z z)) := by kernel_rfl
  rw [e, eqF_self]; rfl
theorem e28 {S : ASt} {x y : Nat} (z : Int) : still S (aBin pre.ES .eql 28 (.tmp x) (.tmp y) (.int .u64 z) (.int .u64 z)) = some (.bool true, S) := by
  have e : aBin pre.ES .eql 28 (.tmp x) (.tmp y) (.int .u64 z) (.int .u64 z) = some (.bool (eqF z z)) := by kernel_rfl
  rw [e, eqF_self]; rfl
theorem eStr {S : ASt} (a : List Nat) : still S (aBin pre.ES .eql 9 (.tmp 41) (.tmp 44) (.str a) (.str a)) = some (.bool true, S) := by
  have e : aBin pre.ES .eql 9 (.tmp 41) (.tmp 44) (.str a) (.str a) = some (.bool true) := by
    show some (AV.bool (lEq a a)) = _
    rw [lEq_eq]; simp
  rw [e]; rfl
theorem get2 {o o1 : AO} {j : Nat} {x : AO} (hj : (mkSt [(0, o), (1, o1)] 2).h.get j = some x) : [o, o1][j]? = some x := by
  have hg : (mkSt [(0, o), (1, o1)] 2).h.get j = if j = 1 then some o1 else if j = 0 then some o else none := by
    show (((T.e : T AO).set D 0 _).set D 1 _).get j = _
    rw [T.get_set, T.get_set, T.get_e]
  rw [hg] at hj
  by_cases e1 : j = 1
  · subst e1; simpa using hj
  · by_cases e0 : j = 0
    · subst e0; simpa using hj
    · simp [e1, e0] at hj
section
variable {S : ASt} {v w : AV} {k m t a s : Nat}
theorem sameN : Call1 Try.prog 27 [pI k m t a s nl, pI k m t a s nl] S (.bool true, S) := by
  have h : AtMem Try.prog 27 [pI k m t a s nl, pI k m t a s nl] (mkSt [(0, .dead), (1, .dead)] 2) (.bool true) :=
    AtMem.of_tm ESok noSum_ok (Eq.mp (pre.vcS0 k m t a s (fun r => r.1 = .bool true)) ⟨e61 _, e28 _, e28 _, e28 _, e28 _, by kernel_rfl, by kernel_rfl, eStr _, rfl⟩)
  exact Call1.ro (os := [.dead, .dead]) h (by simp [refsV]) ⟨.pure (by simp [pI, nl, refsV]), .pure (by simp [pI, nl, refsV]), trivial⟩ rfl fun j x hj => get2 hj
theorem pRj {j : Nat} {x : List Nat} {v1 : AV} {o : AO} (h : SlB S v x) (r : RoArg S j v v1 o) (A : ArgB j v1 o x) : RoArg S j (pI k m t a s v) (pI k m t a s v1) o := by
  have hc : v.isCell = true ∧ v1.isCell = true := by cases h <;> cases A <;> exact ⟨rfl, rfl⟩
  exact RoArg.agg (pre := [.int .i64 (.ofNat k), .int .u64 (.ofNat m), .int .u64 (.ofNat t), .int .u64 (.ofNat a), .int .u64 (.ofNat s)]) (post := []) r hc.1 hc.2 (fun c hc => by
    simp only [List.mem_cons, List.not_mem_nil, or_false] at hc
    rcases hc with rfl | rfl | rfl | rfl | rfl <;> simp [refsV]) (fun c hc => by cases hc)
theorem sameD {x : List Nat} (h1 : SlB S v x) (h2 : SlB S w x) (h0 : x ≠ []) (hB : ∀ y, y ∈ x → y < 256) : Call1 Try.prog 27 [pI k m t a s v, pI k m t a s w] S (.bool true, S) := by
  obtain ⟨v1, o, r0, A0⟩ := h1.ro 0
  obtain ⟨w1, o1, r1, A1⟩ := h2.ro 1
  have R0' := pRj (k := k) (m := m) (t := t) (a := a) (s := s) h1 r0 A0
  have R1' := pRj (k := k) (m := m) (t := t) (a := a) (s := s) h2 r1 A1
  cases A0 with
  | nil => exact absurd rfl h0
  | zero => exact absurd rfl h0
  | row _ =>
  cases A1 with
  | nil => exact absurd rfl h0
  | zero => exact absurd rfl h0
  | row _ =>
  have h : AtMem Try.prog 27 [pI k m t a s (.slice (some (0, 0)) x.length (.atl x.length)), pI k m t a s (.slice (some (1, 0)) x.length (.atl x.length))] (mkSt [(0, .cells (x.map cellU) false), (1, .cells (x.map cellU) false)] 2) (.bool true) :=
    AtMem.of_tm ESok noSum_ok (Eq.mp (pre.vcS1 k m t a s x.length (.cells (x.map cellU) false) (.cells (x.map cellU) false) x (fun r => r.1 = .bool true)) ⟨e61 _, e28 _, e28 _, e28 _, e28 _, convS (.row (cs := x.map cellU) (rw := false) (by kernel_rfl) takeU) hB, convS (.row (cs := x.map cellU) (rw := false) (by kernel_rfl) takeU) hB, eStr _, rfl⟩)
  exact Call1.ro (os := [.cells (x.map cellU) false, .cells (x.map cellU) false]) h (by simp [refsV]) ⟨R0', R1', trivial⟩ rfl fun j x hj => get2 hj
end
section
variable {l : List Nat} {S : ASt} {v : AV}
theorem runs (h0 : l ≠ []) (hB : ∀ x, x ∈ l → x < 256) (hl : l.length < 1099511627776) : Runs l := by
  by_cases k2 : kP l = 2
  · exact pof.runD h0 hB hl k2
  · by_cases k3 : kP l = 3
    · exact pof.runA h0 hB hl k3
    · exact pof.runO h0 hB hl k2 k3
theorem runsR (h0 : l ≠ []) (hB : ∀ x, x ∈ l → x < 256) (hl : l.length ≤ 9000) : RunsR l := by
  by_cases h23 : l.length < 23
  · refine run_of_tm rof.EPok (rof.qR_ok (tab := []) (fun e he => by cases he)) (Eq.mp (rof.vcO (rof.qR []) l.length 0 0 (R0 l) .dead false false false [] [] 0 0 0 0 0 0 0 0 0 0 0 0 false false false (EndsR l))
      ⟨rof.lenA _, ifB_mk (fun _ => rof.failR (by decide) (rof.short h23)) fun h => ?_⟩)
    rw [ltF_nn] at h
    exact absurd h23 (of_decide_eq_false h)
  · by_cases k2 : x0 l = 2
    · exact rof.runD h0 hB hl (by omega) k2
    · by_cases k3 : x0 l = 3
      · exact rof.runA h0 hB hl (by omega) k3
      · exact rof.runO h0 hB hl (by omega) k2 k3
theorem resV_map {r : Nat} (g : Nat → Nat) (h : g 3 = r) : mapV g (pof.resV 3 l) = pof.resV r l := by
  unfold pof.resV
  by_cases e : good l
  · rw [if_pos e, if_pos e]
    have : mapV g (pkV 3 l) = pkV r l := by
      unfold pkV
      cases Nat.beq (x0 l) 2
      · cases Nat.beq (x0 l) 3 <;> rfl
      · show pof.pV _ _ _ _ _ (mapV g _) = _
        show pof.pV _ _ _ _ _ (AV.slice (some (g 3, 37)) _ _) = _
        rw [h]; rfl
    show AV.tuple [mapV g (pkV 3 l), nI 0] = _
    rw [this]
  · rw [if_neg e, if_neg e]
    rfl
theorem ofAny (h : SlB S v l) (h0 : l ≠ []) (hB : ∀ x, x ∈ l → x < 256) (hl : l.length < 1099511627776) : Call1 Try.prog 25 [v] S (pof.resV (S.next + 3) l, outS (fun j => S.next + j) [(3, R2 l)] S (S.next + 69)) := by
  obtain ⟨v1, o, r, A⟩ := h.ro 0
  cases A with
  | nil => exact absurd rfl h0
  | zero => exact absurd rfl h0
  | row _ =>
  refine Call1.frame1 (Q1 := pof.Ends l) r (fun B w0 ι w args' _ hsr hv => runs h0 hB hl B w0 ι w args' hsr hv) (by omega) (fun q hq => ?_)
  obtain ⟨nx, hn, rfl⟩ := hq
  refine ⟨BackV.eq (resV_map _ rfl), by show S.next + nx ≤ S.next + 69; omega, fun p hp => ?_⟩
  simp only [List.mem_cons, List.not_mem_nil, or_false] at hp
  subst hp
  exact ⟨Nat.le_of_ble_eq_true rfl, by show S.next + 3 < S.next + 69; omega, .inr ⟨rfl, _, (by kernel_rfl : (mkSt [(0, R0 l), (3, R2 l)] nx).h.get 3 = some (R2 l)), BackO.row (refU l)⟩⟩
theorem refAny (h0 : l ≠ []) (hB : ∀ x, x ∈ l → x < 256) (hl : l.length ≤ 9000) (hS : S.h.get 0 = some (R0 l)) (hn : 0 < S.next) : Call1 Try.prog 26 [aA l] S (resR l, outS (gS [some (0, 0, true)] S.next) [] S (S.next + 72)) := by
  have hg2 : ∀ {j x}, (mkSt [(0, R0 l)] 1).h.get j = some x → j = 0 ∧ x = R0 l := fun {j x} hj => by
    have hg : (mkSt [(0, R0 l)] 1).h.get j = if j = 0 then some (R0 l) else none := by
      show ((T.e : T AO).set D 0 _).get j = _
      rw [T.get_set, T.get_e]
    rw [hg] at hj
    by_cases e : j = 0
    · simp [e] at hj; exact ⟨e, hj.symm⟩
    · simp [e] at hj
  have ren0 : ∀ ι : Ren, renS [some (0, 0, true)] ι 0 = ι 0 := fun ι => by
    show (match ι 0 with | some L => some (L.sh 0) | none => none) = ι 0
    cases ι 0 <;> rfl
  refine Call1.frame (S1 := mkSt [(0, R0 l)] 1) (args1 := [aA l]) (Q1 := EndsR l) (fun B w0 ι w args' _ hsr hv => runsR h0 hB hl B w0 ι w args' hsr hv) (src := [some (0, 0, true)])
    ⟨rfl, fun j i' o w hj => ?_, fun j x hj => ?_, fun j x hj hd => ?_, fun j j' x i1 o1 w1 o2 w2 hj ho s1 s2 => ?_⟩ (fun ι args' hv => ?_) (fun q hq => ?_)
  · match j, hj with
    | 0, hj => simp at hj; obtain ⟨rfl, rfl, rfl⟩ := hj; exact ⟨fun _ => rfl, _, hS, by simp [R0]⟩
    | j + 1, hj => simp at hj
  · rw [(hg2 hj).1]; simp
  · obtain ⟨rfl, rfl⟩ := hg2 hj
    exact ⟨0, 0, true, _, rfl, hS, by simp [R0], (fun h => by cases h), fun ι L ob hx => row_sub hx (by simpa using h0) (by rw [List.length_map]; exact takeU) (refU l)⟩
  · obtain ⟨rfl, rfl⟩ := hg2 hj
    cases ho
  · refine ⟨hv.size, fun k y y' hy hy' => ?_⟩
    match k, hy with
    | 0, hy =>
      simp at hy; subst hy
      cases hv.at_ 0 _ y' rfl hy' with
      | slice _ _ _ c' L _ hL hc hl => exact .slice 0 0 _ c' L _ ((ren0 ι).trans hL) hc hl
    | k + 1, hy => simp at hy
  · obtain ⟨nx, hnx, rfl⟩ := hq
    refine ⟨?_, ⟨by show S.next + nx ≤ S.next + 72; omega, by simp⟩, fun p hp => (by cases hp), fun j x hj ho => ?_⟩
    · refine BackV.eq ?_
      have g0 : gS [some (0, 0, true)] S.next 0 = 0 := rfl
      unfold resR
      by_cases e : good l
      · rw [if_pos e]
        have : mapV (gS [some (0, 0, true)] S.next) (pkA l) = pkA l := by
          unfold pkA
          cases Nat.beq (x0 l) 2
          · cases Nat.beq (x0 l) 3 <;> rfl
          · rfl
        show AV.tuple [mapV (gS [some (0, 0, true)] S.next) (pkA l), .bool true] = _
        rw [this]
      · rw [if_neg e]; rfl
    · obtain ⟨rfl, rfl⟩ := hg2 hj
      cases ho
end
end Go.Proofs.Ytlnohbilfogheaa.prd
end

section
open Go Go.Ax Go.Proofs.Ytlnohbilfogheaa Go.Proofs.Ytlnohbilfogheaa.pof
namespace Go.Proofs.Ytlnohbilfogheaa.prd
open Go.Proofs.Ytlnohbilfogheaa.rdr (fl0 nI nilV)
open Go.Proofs.Ytlnohbilfogheaa.rof (pkA resR EndsR RunsR aA)
set_option linter.unusedVariables false
theorem E7ok : Env.Ok Try.prog E7 := envEx_ok (xs := []) ⟨⟨Try.func7, Try.call7⟩, ⟨Try.func23, Try.call23⟩, trivial⟩ trivial (by kernel_rfl)
theorem E0ok : Env.Ok Try.prog pre.E0 := envEx_ok (xs := []) ⟨⟨Try.func7, Try.call7⟩, ⟨Try.func23, Try.call23⟩, ⟨Try.func25, Try.call25⟩, ⟨Try.func26, Try.call26⟩, ⟨Try.func27, Try.call27⟩, ⟨Try.func60, Try.call60⟩, ⟨Try.func47, Try.call47⟩, ⟨Try.func61, Try.call61⟩, ⟨Try.func62, Try.call62⟩, ⟨Try.func63, Try.call63⟩, ⟨Try.func64, Try.call64⟩, ⟨Try.func93, Try.call93⟩, ⟨Try.func78, Try.call78⟩, trivial⟩ trivial (by kernel_rfl)
noncomputable def q7 (tab : List (Nat × List AV × ASt × (AV × ASt))) : CallT := orC psz.kC (tabC tab)
theorem q7_ok {tab : List (Nat × List AV × ASt × (AV × ASt))} (h : ∀ e, e ∈ tab → Call1 Try.prog e.1 e.2.1 e.2.2.1 e.2.2.2) : CallsOK Try.prog (sm7 (q7 tab)) := onlyC_ok (orC_ok psz.kC_ok (tabC_ok h))
theorem at_tab {tab : List (Nat × List AV × ASt × (AV × ASt))} {f j : Nat} {args : List AV} {S : ASt} {r : AV × ASt} (hm : memN f [24, 25, 26, 27] = true) (hk : psz.kC f args S = none) (h : tabC tab f args S = some r) : (M E7 (drawA E7) (sm7 (q7 tab)) (j + 1)).call f args S = some r :=
  call_at (onlyC_at hm (orC_r hk h))
theorem at_known {tab : List (Nat × List AV × ASt × (AV × ASt))} {S : ASt} {j : Nat} : (M E7 (drawA E7) (sm7 (q7 tab)) (j + 1)).call 24 [] S = some (.bool true, S) := call_at (onlyC_at rfl (orC_l rfl))
theorem sl25 : sliceT E7 25 = some 1 := by kernel_rfl
theorem cell5 : cellT E7 5 = true := by kernel_rfl
theorem ap25 : appT E7 25 25 = some (1, 1) := by kernel_rfl
theorem setL_one : ∀ {cs : List AV} {o : Nat} {v : AV}, o < cs.length → setL cs o [v] = some (cs.set o v) := by
  intro cs o v h
  rw [setL_eq]
  induction cs generalizing o with
  | nil => simp at h
  | cons c cs ih =>
    cases o with
    | zero => rfl
    | succ o =>
      show (match setL0 cs o [v] with | some r => some (c :: r) | none => none) = _
      rw [ih (by simpa using h)]; rfl
theorem store5 {S : ASt} {cs : List AV} {i j : Nat} {Z : Int} (hS : S.h.get i = some (.cells cs true)) (hj : j < cs.length) : aStore E7 5 (.ptr (some (i, j))) (.int .u8 Z) S = some (S.put i (.cells (cs.set j (.int .u8 Z)) true)) := by
  obtain ⟨ti, h1, h2⟩ : ∃ ti, E7.ty.get 5 = some ti ∧ Nat.beq 1 ti.size = true := by
    obtain ⟨ti, h1⟩ : ∃ ti, E7.ty.get 5 = some ti := Option.isSome_iff_exists.mp (by kernel_rfl)
    refine ⟨ti, h1, ?_⟩
    have h3 : (match E7.ty.get 5 with | some ti => Nat.beq 1 ti.size | none => false) = true := by kernel_rfl
    rw [h1] at h3
    exact h3
  simp only [aStore, hS, h1, h2, cond_true, setL_one hj]
section
variable {l : List Nat} {V5 V7 : AV} {p q : AO}
def LawQ (r : Exit × AFr × ASt) : Prop := (r.1 = .normal ∨ r.1 = .ret) ∧ ans (leaveA E7 Try.f7 r.2.1 r.2.2) = some (.bool true)
def Cells (n : Nat) (cs : List AV) : Prop := cs.length = n ∧ ∀ c, c ∈ cs → ∃ z, c = .int .u8 z
theorem shape : dropC 4 c7 = .seq (.seq (seqL (seqL (dropC 4 c7))) (.block 0 (.loop L7))) (dropC 5 c7) := by kernel_rfl
def RQ (l : List Nat) (n k : Nat) (V5 V7 : AV) (p q : AO) (cs : List AV) (r : Exit × AFr × ASt) : Prop := (k < n ∧ ∃ cs', Cells n cs' ∧ Stops 1 .normal (fr8 n (k + 1) V5 V7) (S7 (R0 l) (.cells cs' true) (R2 l) p q) r) ∨ (k = n ∧ Stops 1 (.exit 0) (fr8 n k V5 V7) (S7 (R0 l) (.cells cs true) (R2 l) p q) r)
theorem round {n k : Nat} {cs : List AV} (hn : n ≤ 9000) (hk : k ≤ n) (hc : Cells n cs) :
    Trip Try.prog 1 none L7 (fr8 n k V5 V7) (S7 (R0 l) (.cells cs true) (R2 l) p q) (RQ l n k V5 V7 p q cs) := by
  have fin : ∀ {z : Int} {r2 : AO} {ys}, (tR n k z V5 V7 (R0 l) (.cells cs true) r2 (R2 l) p q).allY (fun r => RQ l n k V5 V7 p q cs (canR [0, 2, 3, 4, 5, 6, 7, 8] [0, 1, 5, 71, 144] r)) ys →
      Trip Try.prog 1 none L7 (fr8 n k V5 V7) (S7 (R0 l) (.cells cs true) (R2 l) p q) (RQ l n k V5 V7 p q cs) := fun h =>
    (Trip.runY E7ok noSum_ok h).mono fun r hr => hr.imp (fun ⟨h1, cs', h2, h3⟩ => ⟨h1, cs', h2, h3.can⟩) (fun h => ⟨h.1, h.2.can⟩)
  have hlen : ∀ S : ASt, aBuiltinM E7 .len [25] [.slice (some (1, 0)) n (.rest 1)] S = some (nI n, S) := fun S => by kernel_rfl
  by_cases e : k < n
  · have hk2 : k < cs.length := by rw [hc.1]; exact e
    obtain ⟨z, hz⟩ := hc.2 cs[k] (List.getElem_mem hk2)
    have hI : ∀ S : ASt, still S (aIndexAddr E7 25 (.slice (some (1, 0)) n (.rest 1)) (.int .i64 (.ofNat k))) = some (.ptr (some (1, k)), S) := fun S => by
      have := idx_at (E := E7) (t := 25) (i := 1) (o := 0) (n := n) (c := .rest 1) (kd := .i64) sl25 e
      rw [Nat.zero_add, Nat.mul_one] at this
      exact still_of this
    refine fin (z := z) (r2 := .cells (cs.set k (.int .u8 (wrapF .u8 (z + .ofNat 1)))) true) (Eq.mp (vcR n k z V5 V7 (R0 l) (.cells cs true) _ (R2 l) p q (RQ l n k V5 V7 p q cs)) ⟨hlen _, ifB_mk (fun _ => ⟨hI _, ?_, hI _, ?_, ?_⟩) fun h => ?_⟩)
    · exact load_at (cs := cs) (rw := true) cell5 (by kernel_rfl) (by rw [List.getElem?_eq_getElem hk2, hz])
    · rw [store5 (cs := cs) (by kernel_rfl) hk2]
      kernel_rfl
    · refine .inl ⟨e, cs.set k (.int .u8 (wrapF .u8 (z + .ofNat 1))), ⟨by rw [List.length_set]; exact hc.1, fun c hc' => ?_⟩, rfl, ?_⟩
      · rcases List.mem_or_eq_of_mem_set hc' with h | h
        · exact hc.2 c h
        · exact ⟨_, h⟩
      · rw [show (Int.ofNat k + Int.ofNat 1) = Int.ofNat (k + 1) from rfl, wrap_nat (by omega)]
        exact Wk.refl _ _ _
    · rw [ltF_nn] at h
      simp [e] at h
  · have ek : k = n := by omega
    refine fin (z := 0) (r2 := .dead) (Eq.mp (vcR n k 0 V5 V7 (R0 l) (.cells cs true) _ (R2 l) p q (RQ l n k V5 V7 p q cs)) ⟨hlen _, ifB_mk (fun h => ?_) fun _ => .inr ⟨ek, rfl, Wk.refl _ _ _⟩⟩)
    rw [ltF_nn] at h
    simp [e] at h
theorem loop {n : Nat} {cs : List AV} (hn : n ≤ 9000) (hc : Cells n cs) : Trip Try.prog 1 none (.block 0 (.loop L7)) (fr8 n 0 V5 V7) (S7 (R0 l) (.cells cs true) (R2 l) p q) fun r => ∃ cs', Stops 1 .normal (fr8 n n V5 V7) (S7 (R0 l) (.cells cs' true) (R2 l) p q) r := by
  refine Trip.block (Trip.loop (fun m fr st => ∃ k cs, k ≤ n ∧ m = n - k ∧ Cells n cs ∧ fr = fr8 n k V5 V7 ∧ st = S7 (R0 l) (.cells cs true) (R2 l) p q) ?_ n ⟨0, cs, by omega, by omega, hc, rfl, rfl⟩)
  rintro m fr st ⟨k, cs, hk, rfl, hC, rfl, rfl⟩
  refine (round hn hk hC).mono ?_
  rintro ⟨e, fr', st'⟩ (⟨h1, cs', h2, h3, h4⟩ | ⟨h1, h3, h4⟩)
  · simp only at h3
    subst h3
    exact ⟨n - (k + 1), _, _, by omega, h4, k + 1, cs', by omega, rfl, h2, rfl, rfl⟩
  · simp only at h3
    subst h3
    subst h1
    exact ⟨fun _ => ⟨cs, rfl, h4⟩, fun h => absurd rfl h⟩
theorem cells0 : Cells l.length (l.map cellU) := ⟨by simp, fun c hc => by
  obtain ⟨x, _, rfl⟩ := List.mem_map.1 hc
  exact ⟨_, rfl⟩⟩
theorem rest (hn : l.length ≤ 9000) (hend : ∀ cs : List AV, Trip Try.prog 1 none (dropC 5 c7) (fr8 l.length l.length V5 V7) (S7 (R0 l) (.cells cs true) (R2 l) p q) LawQ) :
    Trip Try.prog 1 none (dropC 4 c7) (fr7 l.length V5 V7) (S7 (R0 l) (R2 l) (R2 l) p q) LawQ := by
  rw [shape]
  refine Trip.seq (R := fun r => ∃ cs', Stops 1 .normal (fr8 l.length l.length V5 V7) (S7 (R0 l) (.cells cs' true) (R2 l) p q) r)
    (Trip.seq (R := Stops 1 .normal (fr8 l.length 0 V5 V7) (S7 (R0 l) (R2 l) (R2 l) p q)) ((Trip.runY E7ok noSum_ok (Eq.mp (vcI l.length V5 V7 (R0 l) (R2 l) (R2 l) p q (Stops 1 .normal (fr8 l.length 0 V5 V7) (S7 (R0 l) (R2 l) (R2 l) p q))) ⟨rfl, Wk.refl _ _ _⟩)).mono fun r hr => hr.can) (fun fr' st' hq => Trip.less hq.2 (loop hn cells0)) (fun e fr' st' hne hq => absurd hq.1 hne)) (fun fr' st' hq => ?_) (fun e fr' st' hne hq => ?_)
  · obtain ⟨cs', hq⟩ := hq
    exact Trip.less hq.2 (hend cs')
  · obtain ⟨cs', hq⟩ := hq
    exact absurd hq.1 hne
end
end Go.Proofs.Ytlnohbilfogheaa.prd
end

section
open Go Go.Ax Go.Proofs.Ytlnohbilfogheaa Go.Proofs.Ytlnohbilfogheaa.pof
namespace Go.Proofs.Ytlnohbilfogheaa.prd
open Go.Proofs.Ytlnohbilfogheaa.rdr (fl0 nI nilV)
open Go.Proofs.Ytlnohbilfogheaa.rof (pkA resR EndsR RunsR aA)
set_option linter.unusedVariables false
section
variable {l : List Nat}
theorem forms (l : List Nat) : (good l ∧ (∃ k m t a s, pof.resV 5 l = .tuple [pI k m t a s nl, nI 0] ∧ resR l = .tuple [pI k m t a s nl, .bool true])) ∨
    (¬ good l ∧ pof.resV 5 l = .tuple [pI 0 0 0 0 0 nl, nI 4] ∧ resR l = .tuple [pI 0 0 0 0 0 nl, .bool false]) ∨
    (good l ∧ (∃ m t a s, pof.resV 5 l = .tuple [pI 2 m t a s (sP (nP l)), nI 0] ∧ resR l = .tuple [pI 2 m t a s (sQ (nP l) (l.length - 37)), .bool true]) ∧ (plD l).length = nP l ∧ plD l ≠ []) := by
  by_cases g : good l
  · have e1 : pof.resV 5 l = .tuple [pkV 5 l, nI 0] := by unfold pof.resV; rw [if_pos g]
    have e2 : resR l = .tuple [pkA l, .bool true] := by unfold rof.resR; rw [if_pos g]
    by_cases k2 : x0 l = 2
    · refine .inr (.inr ⟨g, ⟨x1 l, x2 l, x3 l, x4 l, ?_, ?_⟩, ?_⟩)
      · rw [e1]; unfold pkV; rw [k2]; rfl
      · rw [e2]; unfold rof.pkA; rw [k2]; rfl
      · rcases g with ⟨q, _⟩ | ⟨q, _⟩ | ⟨_, q1, q2, _⟩
        · exact absurd k2 q
        · exact absurd (k2.symm.trans q) (by decide)
        · have hl : (plD l).length = nP l := by rw [plD, List.length_take, List.length_drop]; omega
          refine ⟨hl, ?_⟩
          have := pky.may2_len (l := plD l) (m := .ofNat (x1 l)) (t := .ofNat (x2 l)) (a := .ofNat (x3 l)) (s := .ofNat (x4 l)) (by rw [hl]; exact q2)
          exact this.1
    · by_cases k3 : x0 l = 3
      · refine .inl ⟨g, 3, x1 l, x2 l, x3 l, 0, ?_, ?_⟩
        · rw [e1]; unfold pkV; rw [k3]; rfl
        · rw [e2]; unfold rof.pkA; rw [k3]; rfl
      · refine .inl ⟨g, x0 l, x1 l, x2 l, 0, 0, ?_, ?_⟩
        · rw [e1]; unfold pkV; rw [beq_f k2, beq_f k3]; rfl
        · rw [e2]; unfold rof.pkA; rw [beq_f k2, beq_f k3]; rfl
  · refine .inr (.inl ⟨g, ?_, ?_⟩)
    · unfold pof.resV; rw [if_neg g]; rfl
    · unfold rof.resR; rw [if_neg g]; rfl
theorem hf {S : ASt} (h : S.h.get 0 = some (R0 l)) : aFirst S 1 l.length (.slice (some (0, 0)) l.length (.atl l.length)) = some (l.map cellU) := first_at h (by rw [Nat.mul_one]; exact takeU)
theorem c25 (h0 : l ≠ []) (hB : ∀ x, x ∈ l → x < 256) (hl : l.length ≤ 9000) {V : AV} (hV : pof.resV 5 l = V) : Call1 Try.prog 25 [.slice (some (1, 0)) l.length (.rest 1)] (mkSt [(0, R0 l), (1, R2 l)] 2) (V, mkSt [(0, R0 l), (1, R2 l), (5, R2 l)] 71) := by
  subst hV
  exact pof.to1 (ofAny (l := l) (SlB.row (cs := l.map cellU) (rw := true) (by kernel_rfl) takeU) h0 hB (by omega)) rfl (by kernel_rfl)
theorem c26 (h0 : l ≠ []) (hB : ∀ x, x ∈ l → x < 256) (hl : l.length ≤ 9000) {V : AV} {p : AO} (hV : resR l = V) : Call1 Try.prog 26 [.slice (some (0, 0)) l.length (.atl l.length)] (mkSt [(0, R0 l), (1, R2 l), (5, R2 l), (71, p)] 72) (V, mkSt [(0, R0 l), (1, R2 l), (5, R2 l), (71, p)] 144) := by
  subst hV
  exact pof.to1 (refAny (l := l) h0 hB hl (by kernel_rfl) (by show 0 < 72; decide)) rfl (by kernel_rfl)
def done2 (q : Exit × Option AV) : Prop := (q.1 = .normal ∨ q.1 = .ret) ∧ q.2 = some (.bool true)
theorem outQ {r : Exit × AFr × ASt} (h : done2 (r.1, ans (leaveA E7 Try.f7 r.2.1 r.2.2))) : LawQ r := h
theorem endN {e : Nat} {ok : Bool} (he : (e = 0 ∧ ok = true) ∨ (e = 4 ∧ ok = false)) {k m t a s : Nat} (cs : List AV) :
    Trip Try.prog 1 none (dropC 5 c7) (fr8 l.length l.length (nI e) (.bool ok)) (S7 (R0 l) (.cells cs true) (R2 l) (pC k m t a s nl) (pC k m t a s nl)) LawQ := by
  have hq := q7_ok (tab := [(27, [pI k m t a s nl, pI k m t a s nl], S7 (R0 l) (.cells cs true) (R2 l) (pC k m t a s nl) (pC k m t a s nl), (.bool true, S7 (R0 l) (.cells cs true) (R2 l) (pC k m t a s nl) (pC k m t a s nl)))]) (fun e he => by
    simp only [List.mem_cons, List.not_mem_nil, or_false] at he
    subst he
    exact sameN)
  rcases he with ⟨rfl, rfl⟩ | ⟨rfl, rfl⟩
  · exact (Trip.runY E7ok hq (Eq.mp (vcE0 (q7 _) l.length l.length k m t a s (R0 l) (.cells cs true) (R2 l) done2) ⟨at_tab rfl rfl (tabC_hd ..), at_known, .inr rfl, rfl⟩)).mono fun r hr => outQ hr
  · exact (Trip.runY E7ok hq (Eq.mp (vcE4 (q7 _) l.length l.length k m t a s (R0 l) (.cells cs true) (R2 l) done2) ⟨at_tab rfl rfl (tabC_hd ..), at_known, .inr rfl, rfl⟩)).mono fun r hr => outQ hr
theorem slD {S : ASt} {i : Nat} {c : Cap} {rw : Bool} (hg : S.h.get i = some (.cells (l.map cellU) rw)) (hl : (plD l).length = nP l) : SlB S (.slice (some (i, 37)) (nP l) c) (plD l) := by
  refine SlB.row hg ?_
  have e2 : ((l.map cellU).drop 37).take (nP l) = (plD l).map cellU := by rw [plD, List.map_take, List.map_drop]
  unfold takeL
  rw [e2]
  have e3 : ((plD l).map cellU).length = nP l := by rw [List.length_map, hl]
  simp only [e3, Nat.beq_refl, cond_true]
theorem endD (hB : ∀ x, x ∈ l → x < 256) (hl : (plD l).length = nP l) (h0 : plD l ≠ []) {m t a s : Nat} (cs : List AV) :
    Trip Try.prog 1 none (dropC 5 c7) (fr8 l.length l.length (nI 0) (.bool true)) (S7 (R0 l) (.cells cs true) (R2 l) (pC 2 m t a s (sP (nP l))) (pC 2 m t a s (sQ (nP l) (l.length - 37)))) LawQ := by
  have hb : ∀ y, y ∈ plD l → y < 256 := fun y hy => hB y (List.mem_of_mem_drop (List.mem_of_mem_take hy))
  have hq := q7_ok (tab := [(27, [pI 2 m t a s (sP (nP l)), pI 2 m t a s (sQ (nP l) (l.length - 37))], S7 (R0 l) (.cells cs true) (R2 l) (pC 2 m t a s (sP (nP l))) (pC 2 m t a s (sQ (nP l) (l.length - 37))), (.bool true, S7 (R0 l) (.cells cs true) (R2 l) (pC 2 m t a s (sP (nP l))) (pC 2 m t a s (sQ (nP l) (l.length - 37)))))]) (fun e he => by
    simp only [List.mem_cons, List.not_mem_nil, or_false] at he
    subst he
    exact sameD (slD (rw := true) (by kernel_rfl) hl) (slD (rw := false) (by kernel_rfl) hl) h0 hb)
  exact (Trip.runY E7ok hq (Eq.mp (vcED (q7 _) l.length l.length 2 m t a s (nP l) (l.length - 37) (R0 l) (.cells cs true) (R2 l) done2) ⟨at_tab rfl rfl (tabC_hd ..), at_known, .inr rfl, rfl⟩)).mono fun r hr => outQ hr
theorem shortA {S : ASt} {n : Nat} : aBuiltinM E7 .len [25] [.slice (some (0, 0)) n (.atl n)] S = some (nI n, S) := by kernel_rfl
theorem body (h0 : l ≠ []) (hB : ∀ x, x ∈ l → x < 256) (hb : l.length < 9223372036854775808) : Trip Try.prog 1 none c7 (F0 (aA l)) (mkSt [(0, R0 l)] 1) LawQ := by
  have hp : 0 < l.length := List.length_pos_iff.2 h0
  have hr : ∀ r : Exit × AFr × ASt, r.1 = .ret → done2 (.ret, ans (leaveA E7 Try.f7 r.2.1 r.2.2)) → LawQ r := fun r h1 h2 => ⟨.inr h1, h2.2⟩
  have ap : ∀ {S : ASt}, S.h.get 0 = some (R0 l) → l.length ≤ 9000 → aBuiltinM E7 .append [25, 25] [.slice none 0 (.known 0), .slice (some (0, 0)) l.length (.atl l.length)] S = some (.slice (some (S.next, 0)) l.length (.rest 1), S.add (.cells (l.map cellU) true)) := fun {S} hS h9 =>
    append_nil_at ap25 (n := l.length) (by kernel_rfl) (hf hS) hp (by omega) (by omega)
  by_cases h9 : 9000 < l.length
  · refine Trip.preM E7ok (q7_ok (tab := []) (fun e he => by cases he)) (fn := Try.f7) (k := 4) (kf := [0, 2, 3, 4, 5, 6, 7]) (ko := [0, 1, 5, 71, 144]) (Q1 := fun _ => False) (Q2 := done2) (by kernel_rfl)
      (Eq.mp (vcPN (q7 []) l.length 0 0 0 0 0 (R0 l) .dead .dead 0 false (fun _ => False) done2) ⟨shortA, ifB_mk (fun _ => ⟨at_known, .inr rfl, rfl⟩) fun h => ?_⟩) (fun F S h => h.elim) hr (fun r _ _ h => h.elim)
    rw [ltF_nn] at h
    exact absurd h9 (of_decide_eq_false h)
  · have h9' : l.length ≤ 9000 := by omega
    have hno : ∀ {P : Prop}, ltF (.ofNat 9000) (.ofNat l.length) = true → P := fun {P} h => by
      rw [ltF_nn] at h
      exact absurd (of_decide_eq_true h) h9
    rcases forms l with ⟨_, k, m, t, a, s, g1, g2⟩ | ⟨_, g1, g2⟩ | ⟨_, ⟨m, t, a, s, g1, g2⟩, g3, g4⟩
    · have hq := q7_ok (tab := [(25, [.slice (some (1, 0)) l.length (.rest 1)], mkSt [(0, R0 l), (1, R2 l)] 2, (.tuple [pI k m t a s nl, nI 0], mkSt [(0, R0 l), (1, R2 l), (5, R2 l)] 71)),
          (26, [.slice (some (0, 0)) l.length (.atl l.length)], mkSt [(0, R0 l), (1, R2 l), (5, R2 l), (71, pC k m t a s nl)] 72, (.tuple [pI k m t a s nl, .bool true], mkSt [(0, R0 l), (1, R2 l), (5, R2 l), (71, pC k m t a s nl)] 144))]) (fun e he => by
        simp only [List.mem_cons, List.not_mem_nil, or_false] at he
        rcases he with rfl | rfl
        · exact c25 h0 hB h9' g1
        · exact c26 h0 hB h9' g2)
      refine Trip.preM E7ok hq (fn := Try.f7) (k := 4) (kf := [0, 2, 3, 4, 5, 6, 7]) (ko := [0, 1, 5, 71, 144]) (Q1 := fun r => r = (.normal, fr7 l.length (nI 0) (.bool true), S7 (R0 l) (R2 l) (R2 l) (pC k m t a s nl) (pC k m t a s nl))) (Q2 := done2) (by kernel_rfl)
        (Eq.mp (vcPN (q7 _) l.length k m t a s (R0 l) (R2 l) (R2 l) 0 true (fun r => r = (.normal, fr7 l.length (nI 0) (.bool true), S7 (R0 l) (R2 l) (R2 l) (pC k m t a s nl) (pC k m t a s nl))) done2) ⟨shortA, ifB_mk (fun h => hno h) fun _ => ⟨(ap (by kernel_rfl) h9').trans (by kernel_rfl), at_tab rfl rfl (tabC_hd ..), at_tab rfl rfl ((tabC_tlf rfl).trans (tabC_hd ..)), rfl⟩⟩) ?_ hr (fun r h1 _ h => absurd (congrArg Prod.fst h) h1)
      rintro F S h
      cases h
      exact rest h9' fun cs => endN (.inl ⟨rfl, rfl⟩) cs
    · have hq := q7_ok (tab := [(25, [.slice (some (1, 0)) l.length (.rest 1)], mkSt [(0, R0 l), (1, R2 l)] 2, (.tuple [pI 0 0 0 0 0 nl, nI 4], mkSt [(0, R0 l), (1, R2 l), (5, R2 l)] 71)),
          (26, [.slice (some (0, 0)) l.length (.atl l.length)], mkSt [(0, R0 l), (1, R2 l), (5, R2 l), (71, pC 0 0 0 0 0 nl)] 72, (.tuple [pI 0 0 0 0 0 nl, .bool false], mkSt [(0, R0 l), (1, R2 l), (5, R2 l), (71, pC 0 0 0 0 0 nl)] 144))]) (fun e he => by
        simp only [List.mem_cons, List.not_mem_nil, or_false] at he
        rcases he with rfl | rfl
        · exact c25 h0 hB h9' g1
        · exact c26 h0 hB h9' g2)
      refine Trip.preM E7ok hq (fn := Try.f7) (k := 4) (kf := [0, 2, 3, 4, 5, 6, 7]) (ko := [0, 1, 5, 71, 144]) (Q1 := fun r => r = (.normal, fr7 l.length (nI 4) (.bool false), S7 (R0 l) (R2 l) (R2 l) (pC 0 0 0 0 0 nl) (pC 0 0 0 0 0 nl))) (Q2 := done2) (by kernel_rfl)
        (Eq.mp (vcPN (q7 _) l.length 0 0 0 0 0 (R0 l) (R2 l) (R2 l) 4 false (fun r => r = (.normal, fr7 l.length (nI 4) (.bool false), S7 (R0 l) (R2 l) (R2 l) (pC 0 0 0 0 0 nl) (pC 0 0 0 0 0 nl))) done2) ⟨shortA, ifB_mk (fun h => hno h) fun _ => ⟨(ap (by kernel_rfl) h9').trans (by kernel_rfl), at_tab rfl rfl (tabC_hd ..), at_tab rfl rfl ((tabC_tlf rfl).trans (tabC_hd ..)), rfl⟩⟩) ?_ hr (fun r h1 _ h => absurd (congrArg Prod.fst h) h1)
      rintro F S h
      cases h
      exact rest h9' fun cs => endN (.inr ⟨rfl, rfl⟩) cs
    · have hq := q7_ok (tab := [(25, [.slice (some (1, 0)) l.length (.rest 1)], mkSt [(0, R0 l), (1, R2 l)] 2, (.tuple [pI 2 m t a s (sP (nP l)), nI 0], mkSt [(0, R0 l), (1, R2 l), (5, R2 l)] 71)),
          (26, [.slice (some (0, 0)) l.length (.atl l.length)], mkSt [(0, R0 l), (1, R2 l), (5, R2 l), (71, pC 2 m t a s (sP (nP l)))] 72, (.tuple [pI 2 m t a s (sQ (nP l) (l.length - 37)), .bool true], mkSt [(0, R0 l), (1, R2 l), (5, R2 l), (71, pC 2 m t a s (sP (nP l)))] 144))]) (fun e he => by
        simp only [List.mem_cons, List.not_mem_nil, or_false] at he
        rcases he with rfl | rfl
        · exact c25 h0 hB h9' g1
        · exact c26 h0 hB h9' g2)
      refine Trip.preM E7ok hq (fn := Try.f7) (k := 4) (kf := [0, 2, 3, 4, 5, 6, 7]) (ko := [0, 1, 5, 71, 144]) (Q1 := fun r => r = (.normal, fr7 l.length (nI 0) (.bool true), S7 (R0 l) (R2 l) (R2 l) (pC 2 m t a s (sP (nP l))) (pC 2 m t a s (sQ (nP l) (l.length - 37))))) (Q2 := done2) (by kernel_rfl)
        (Eq.mp (vcPD (q7 _) l.length 2 m t a s (nP l) (l.length - 37) (R0 l) (R2 l) (R2 l) (fun r => r = (.normal, fr7 l.length (nI 0) (.bool true), S7 (R0 l) (R2 l) (R2 l) (pC 2 m t a s (sP (nP l))) (pC 2 m t a s (sQ (nP l) (l.length - 37))))) done2) ⟨shortA, ifB_mk (fun h => hno h) fun _ => ⟨(ap (by kernel_rfl) h9').trans (by kernel_rfl), at_tab rfl rfl (tabC_hd ..), at_tab rfl rfl ((tabC_tlf rfl).trans (tabC_hd ..)), rfl⟩⟩) ?_ hr (fun r h1 _ h => absurd (congrArg Prod.fst h) h1)
      rintro F S h
      cases h
      exact rest h9' fun cs => endD hB g3 g4 cs
theorem law {v : AV} {o : AO} (A : ArgB 0 v o l) (hB : ∀ x, x ∈ l → x < 256) (hb : l.length < 9223372036854775808) : AtMem Try.prog 7 [v] (mkSt [(0, o)] 1) (.bool true) := by
  have hk : CallsOK Try.prog (pre.sm0 psz.kC) := onlyC_ok psz.kC_ok
  cases A with
  | nil => exact AtMem.of_tm E0ok hk (Eq.mp (pre.vcZ0 psz.kC (fun r => r.1 = .bool true)) ⟨call_at (onlyC_at rfl rfl), rfl⟩)
  | zero => exact AtMem.of_tm E0ok hk (Eq.mp (pre.vcZ1 psz.kC (fun r => r.1 = .bool true)) ⟨call_at (onlyC_at rfl rfl), rfl⟩)
  | row h0 =>
    refine AtMem.of_trip E7ok (fn := Try.f7) (by kernel_rfl) (c := c7) (by kernel_rfl) (by kernel_rfl) ?_
    have hfr : ({ m := putArgs [.slice (some (0, 0)) l.length (.atl l.length)] 0 .e, n := Try.f7.ntmps, defs := [] } : AFr) = F0 (aA l) := by kernel_rfl
    rw [hfr]
    exact body h0 hB hb
end
end Go.Proofs.Ytlnohbilfogheaa.prd
end

section
open Go Go.Ax Go.Proofs.Ytlnohbilfogheaa Go.Proofs.Ytlnohbilfogheaa.psz
namespace Go.Proofs.Ytlnohbilfogheaa.prd
set_option linter.unusedVariables false
noncomputable section
open Go.ChangeShapes Go.WideShapes Go.ChangeAt Go.RowKit Go.Deep
theorem walk {W : World} {v0 : Value} {l : List Nat} {vl : AV} {o0 : AO} {r0 : Option (Nat × Nat × List AV)} (B0 : ArgB 0 vl o0 l) (hB : ∀ x, x ∈ l → x < 256) (hb : l.length < 9223372036854775808)
    (A0 : ArgAt psz.E W 25 1 0 l.length v0 (l.map cellU) vl o0 r0) :
    Calls Try.prog 7 #[v0] W fun e w' => e = .returned (.bool true) ∧ Below W.heap.size W w' := by
  have hgl : GlobOK W := by intro _ _ h; cases h
  have hg : ∀ i, (mkSt [(0, o0)] 1).h.get i = if i = 0 then some o0 else none := fun i => by
    show ((T.e : T AO).set D 0 _).get i = _
    rw [T.get_set, T.get_e]
  have hrow : ∀ i r, row1 r0 i = some r → r.2.2 ≠ [] ∧ RowAt W r.1 r.2.1 r.2.2 := fun i r h => by
    match i, h with
    | 0, h => exact A0.row r h
  have hsr := rowsO_ok hgl (n := 1) (rows := row1 r0) hrow (st := mkSt [(0, o0)] 1) rfl (fun i a hi => by
    rw [hg] at hi
    by_cases e0 : i = 0
    · subst e0; simp at hi; subst hi; exact ⟨by omega, A0.obj⟩
    · simp [e0] at hi)
  have w0 : VR (rowsRen W 1 (row1 r0)) vl v0 := A0.vr _ fun q hq => rowsRen_at (i := 0) (by omega) hq (A0.row q hq).1 (A0.row q hq).2
  have hv : VRs (rowsRen W 1 (row1 r0)) [vl] #[v0] := ⟨rfl, fun i x x' hx hx' => by
    match i with
    | 0 => simp at hx hx'; subst hx; subst hx'; exact w0
    | i + 1 => simp at hx⟩
  exact law_at (fun _ h => h) (fun k hk => .inr hk) hsr hv (prd.law B0 hB hb)
set_option maxRecDepth 100000 in
theorem lifted (os : Os) (started : os.Started) (H : Type) (enc : TypeId × Value → H) :
    ReturnsInHanded {} Try.checked os 7 .any (Rows.packetReadsSpec.pre6 enc Try.prog Try.f7 Rows.packetReadsRow.domain false) (Rows.packetReadsSpec.post enc Try.prog Try.f7 false true false false) := by
  refine returnsInHanded_of_change (C := Try.checked) own started (by kernel_rfl) Try.func7
    (ChangeSpec.witness6 (enc := enc) (C := Try.checked) false ⟨#[], #[.slice none 0 0], []⟩ 8 (by kernel_rfl) (by kernel_rfl) (by kernel_rfl) (by kernel_rfl)) ?_
  intro W base args ds gs before hval0 hW hcnd _
  have hval : ∀ (j : Nat) t v, Try.f7.params[j]? = some t → args[j]? = some v → Value.okWide Try.prog W .any base t v := hval0
  have hW' := hW
  obtain ⟨p, q, hA0, hV, rfl, hfz, hnd⟩ := hW
  have hA : DataW.TrodAll enc Try.prog W 0 (fun _ => true) true Try.f7.params.toList args.toList ds p := hA0
  rw [Try.params7] at hA hval
  obtain ⟨v0, d0, rfl, rfl, h0⟩ := trodAll_one hA
  obtain ⟨rfl, rfl⟩ := trodVars_none hV
  obtain ⟨a0, len, cap, rfl⟩ := okWide_slice Try.underlying25 (hval 0 25 v0 rfl rfl)
  have h0k := h0
  obtain ⟨fu0, hf0⟩ := h0
  clear hA0 hval0
  simp only [List.append_nil] at hW'
  have hlt : ∀ x ∈ p, x.block < W.heap.size := fun x hx => by simpa using hW'.lt x hx
  obtain ⟨v1, hcs, l, vl, o0, r0, L0, B0, A0, hb⟩ := bytes_arg 0 hf0
  have hv1 : v1 = .slice a0 len cap := by
    have : (Value.slice a0 len cap).cells.toList = [.slice a0 len cap] := by simp [Value.cells]
    rw [this] at hcs
    simp at hcs
    exact hcs.symm
  subst hv1
  refine (walk B0 L0 hb A0).mono fun e W' ⟨he, bel⟩ => ?_
  subst he
  have ARG0 : DataW.Trod enc Try.prog W' 0 (fun x => decide (x < W.heap.size)) true 25 (.slice a0 len cap) d0 p :=
    WideElems.Trod_stays laidOut (by kernel_rfl) (of_decide_eq_true (by kernel_rfl)) h0k (fun x hx => same_below bel (hlt x hx)) (fun x hx => by simpa using hlt x hx)
  exact ⟨_, rfl, _, _, _, [], _, [], hW', trodAll_mk1 (shut_bool Try.underlying4 _), trodAll_mk1 ARG0, rfl, bel.frame _, fun h => by cases h⟩
theorem over : Rows.packetReadsRow.holds Try.pinned (OpenSpec.ofChange Rows.packetReadsSpec) :=
  OpenClaim.holds_of_wide 7 Try.f7 rfl rfl rfl rfl rfl rfl rfl ⟨rfl, rfl, rfl, rfl, rfl⟩ rfl rfl rfl rfl rfl (by kernel_rfl) Try.func7 (by kernel_rfl)
    (of_decide_eq_true (by kernel_rfl)) (by unfold Func.isWrapper; first | (rw [if_pos (by decide +kernel)]; kernel_rfl) | (rw [if_neg (by decide +kernel)]; exact ⟨rfl, rfl⟩))
    (fun os started H enc _ => lifted os started H enc)
theorem proved : Rows.PacketReadsSaid := over
end
#print axioms proved
end Go.Proofs.Ytlnohbilfogheaa.prd
end
