/-
  OWN WORK, A PART: an abstract machine for the program's text that the kernel can run, and the proof that it is sound: what it answers is what the program answers; contracts of functions by it. No condition.
-/
import Derived.Test.YtelehjeifhelnaaWbA
section
open Go Go.Ax Go.Proofs
namespace Go.Proofs.Ytelehjeifhelnaa.ovp
set_option linter.unusedVariables false
noncomputable def fnsC : List (Nat × Func) := [(12, Try.f12), (40, Try.f40), (43, Try.f43), (46, Try.f46)]
noncomputable def EC : Env := envEx Try.prog [0, 3, 4, 5, 22, 24, 27, 30, 32, 35, 37, 39, 42, 77, 81, 84] fnsC []
noncomputable def smC (q : CallT) : CallT := onlyC [44, 65] q
noncomputable def tob (V : AV) : AO := .cells [.bool true, V] true
noncomputable def slT (n : Nat) : AV := .slice (some (1, 0)) n (.rest 4)
noncomputable def flC : List (Nat × Fl) := [(12, ⟨[34, 45], [13, 21, 42], [17, 22], []⟩), (43, ⟨[10], [], [], []⟩), (46, ⟨[8], [], [], []⟩), (40, fl0)]
-- a table with a row; z: what find answers, h: what hinders
noncomputable def tCx (q : CallT) (n : Nat) (m b z : Int) (w h : Bool) (R N : AO) : Tr (AV × ASt) := (TM EC (smC q) flC fl0 60).call 12 [.ptr (some (0, 0)), .int .u64 m, .int .i64 b, .bool w] (mkSt [(0, tob (slT n)), (1, R)] 2)
noncomputable def tCy (q : CallT) (n : Nat) (m b z : Int) (w h : Bool) (R N : AO) : Tr (AV × ASt) := (TM EC (smC q) flC fl0 60).call 12 [.ptr (some (0, 0)), .int .u64 m, .int .i64 b, .bool w] (mkSt [(0, tob (slT n)), (1, R)] 2)
-- a table without
noncomputable def tCn (q : CallT) (m b z : Int) (w h : Bool) (N : AO) : Tr (AV × ASt) := (TM EC (smC q) flC fl0 60).call 12 [.ptr (some (0, 0)), .int .u64 m, .int .i64 b, .bool w] (mkSt [(0, tob (.slice none 0 (.known 0))), (1, .dead)] 2)
noncomputable def vcCx_s0 (n : Nat) (R : AO) : ASt := mkSt [(0, .cells [.bool true, .slice (some (1, 0)) n (.rest 4)] true), (1, R)] 2
noncomputable def vcCx_s1 (n : Nat) (m : Int) (R : AO) : ASt := mkSt [(0, .cells [.bool true, .slice (some (1, 0)) n (.rest 4)] true), (1, R), (2, .cells [.int .u64 m] true)] 3
noncomputable def vcCx_s2 (n : Nat) (R : AO) : ASt := mkSt [(0, .cells [.bool true, .slice (some (1, 0)) n (.rest 4)] true), (1, R)] 3
noncomputable def vcCx_s3 (n : Nat) (m : Int) (b : Int) (w : Bool) (R : AO) : ASt := mkSt [(0, .cells [.bool true, .slice (some (1, 0)) n (.rest 4)] true), (1, R), (2, .cells [.int .u64 m] true), (3, .cells [.int .u64 m, .int .i64 (bif ltF b (Int.negSucc 0) then Int.negSucc 0 else b), .bool w, .bool false] true)] 14
noncomputable def vcCx_s4 (n : Nat) (m : Int) (b : Int) (w : Bool) (R : AO) : ASt := mkSt [(0, .cells [.bool true, .slice (some (1, 0)) n (.rest 4)] true), (1, R), (2, .cells [.int .u64 m] true), (3, .cells [.int .u64 m, .int .i64 (bif ltF b (Int.negSucc 0) then Int.negSucc 0 else b), .bool w, .bool false] true)] 26
noncomputable def vcCx_s5 (n : Nat) (m : Int) (b : Int) (w : Bool) (R : AO) : ASt := mkSt [(0, .cells [.bool true, .slice (some (1, 0)) n (.rest 4)] true), (1, R), (2, .cells [.int .u64 m] true), (3, .cells [.int .u64 m, .int .i64 (bif ltF b (Int.negSucc 0) then Int.negSucc 0 else b), .bool w, .bool false] true), (21, .cells [.int .u64 m, .int .i64 (bif ltF b (Int.negSucc 0) then Int.negSucc 0 else b), .bool w, .bool false] true)] 26
noncomputable def vcCx_s6 (n : Nat) (m : Int) (b : Int) (w : Bool) (R : AO) (N : AO) : ASt := mkSt [(0, .cells [.bool true, .slice (some (1, 0)) n (.rest 4)] true), (1, R), (2, .cells [.int .u64 m] true), (3, .cells [.int .u64 m, .int .i64 (bif ltF b (Int.negSucc 0) then Int.negSucc 0 else b), .bool w, .bool false] true), (21, .cells [.int .u64 m, .int .i64 (bif ltF b (Int.negSucc 0) then Int.negSucc 0 else b), .bool w, .bool false] true), (26, N)] 27
noncomputable def vcCx_s7 (n : Nat) (R : AO) (N : AO) : ASt := mkSt [(0, .cells [.bool true, .slice (some (26, 0)) (n + 1) (.rest 4)] true), (1, R), (26, N)] 27
theorem vcCx (q : CallT) (n : Nat) (m : Int) (b : Int) (z : Int) (w : Bool) (h : Bool) (R : AO) (N : AO) (Q : AV × ASt → Prop) :
  (ifB (!ltF b (.ofNat 64)) (Q (.tuple [.bool false, .int .i64 (.ofNat 2)], vcCx_s0 n R)) ((M EC (drawA EC) (smC q) 46).call 65 [.slice (some (1, 0)) n (.rest 4), .clos 66 [.ptr (some (2, 0))]] (vcCx_s1 n m R) = some (.int .i64 z, vcCx_s1 n m R) ∧ ifB (!ltF z (.ofNat 0)) (Q (.tuple [.bool false, .int .i64 (.ofNat 7)], vcCx_s2 n R)) ((M EC (drawA EC) (smC q) 54).call 44 [.slice (some (1, 0)) n (.rest 4), .bound 45 [.agg [.int .u64 m, .int .i64 (bif ltF b (Int.negSucc 0) then Int.negSucc 0 else b), .bool w, .bool false]] []] (vcCx_s3 n m b w R) = some (.bool true, vcCx_s3 n m b w R) ∧ holdsO [] ∧ still (vcCx_s4 n m b w R) (aSlice EC 35 (.slice (some (1, 0)) n (.rest 4)) none (some (.int .i64 (.ofNat n))) (some (.int .i64 (.ofNat n))) (vcCx_s4 n m b w R)) = some (.slice (some (1, 0)) n (.known n), vcCx_s4 n m b w R) ∧ aBuiltinM EC .append [35, 35] [.slice (some (1, 0)) n (.known n), .slice (some (21, 0)) 1 (.known 1)] (vcCx_s5 n m b w R) = some (.slice (some (26, 0)) (n + 1) (.rest 4), vcCx_s6 n m b w R N) ∧ holdsO [(some (.agg [.int .u64 m, .int .i64 (bif ltF b (Int.negSucc 0) then Int.negSucc 0 else b), .bool w, .bool false]), .agg [.int .u64 m, .int .i64 (bif ltF b (Int.negSucc 0) then Int.negSucc 0 else b), .bool w, .bool false])] ∧ Q (.tuple [.bool false, .int .i64 (.ofNat 0)], vcCx_s7 n R N)))) =
  (tCx q n m b z w h R N).allY (fun r => Q (r.1, canS [0, 1, 26] r.2)) (.b .nil (.v (.int .i64 z, vcCx_s1 n m R) (.b .nil (.v (.bool true, vcCx_s3 n m b w R) (.v (.slice (some (1, 0)) n (.known n), vcCx_s4 n m b w R) (.v (.slice (some (26, 0)) (n + 1) (.rest 4), vcCx_s6 n m b w R N) .nil)))))) := by kernel_rfl
noncomputable def vcCy_s0 (n : Nat) (R : AO) : ASt := mkSt [(0, .cells [.bool true, .slice (some (1, 0)) n (.rest 4)] true), (1, R)] 2
noncomputable def vcCy_s1 (n : Nat) (m : Int) (R : AO) : ASt := mkSt [(0, .cells [.bool true, .slice (some (1, 0)) n (.rest 4)] true), (1, R), (2, .cells [.int .u64 m] true)] 3
noncomputable def vcCy_s2 (n : Nat) (R : AO) : ASt := mkSt [(0, .cells [.bool true, .slice (some (1, 0)) n (.rest 4)] true), (1, R)] 3
noncomputable def vcCy_s3 (n : Nat) (m : Int) (b : Int) (w : Bool) (R : AO) : ASt := mkSt [(0, .cells [.bool true, .slice (some (1, 0)) n (.rest 4)] true), (1, R), (2, .cells [.int .u64 m] true), (3, .cells [.int .u64 m, .int .i64 (bif ltF b (Int.negSucc 0) then Int.negSucc 0 else b), .bool w, .bool false] true)] 14
noncomputable def vcCy_s4 (n : Nat) (m : Int) (b : Int) (w : Bool) (R : AO) : ASt := mkSt [(0, .cells [.bool true, .slice (some (1, 0)) n (.rest 4)] true), (1, R), (2, .cells [.int .u64 m] true), (3, .cells [.int .u64 m, .int .i64 (bif ltF b (Int.negSucc 0) then Int.negSucc 0 else b), .bool w, .bool true] true)] 26
noncomputable def vcCy_s5 (n : Nat) (m : Int) (b : Int) (w : Bool) (R : AO) : ASt := mkSt [(0, .cells [.bool true, .slice (some (1, 0)) n (.rest 4)] true), (1, R), (2, .cells [.int .u64 m] true), (3, .cells [.int .u64 m, .int .i64 (bif ltF b (Int.negSucc 0) then Int.negSucc 0 else b), .bool w, .bool true] true), (21, .cells [.int .u64 m, .int .i64 (bif ltF b (Int.negSucc 0) then Int.negSucc 0 else b), .bool w, .bool true] true)] 26
noncomputable def vcCy_s6 (n : Nat) (m : Int) (b : Int) (w : Bool) (R : AO) (N : AO) : ASt := mkSt [(0, .cells [.bool true, .slice (some (1, 0)) n (.rest 4)] true), (1, R), (2, .cells [.int .u64 m] true), (3, .cells [.int .u64 m, .int .i64 (bif ltF b (Int.negSucc 0) then Int.negSucc 0 else b), .bool w, .bool true] true), (21, .cells [.int .u64 m, .int .i64 (bif ltF b (Int.negSucc 0) then Int.negSucc 0 else b), .bool w, .bool true] true), (26, N)] 27
noncomputable def vcCy_s7 (n : Nat) (R : AO) (N : AO) : ASt := mkSt [(0, .cells [.bool true, .slice (some (26, 0)) (n + 1) (.rest 4)] true), (1, R), (26, N)] 27
theorem vcCy (q : CallT) (n : Nat) (m : Int) (b : Int) (z : Int) (w : Bool) (h : Bool) (R : AO) (N : AO) (Q : AV × ASt → Prop) :
  (ifB (!ltF b (.ofNat 64)) (Q (.tuple [.bool false, .int .i64 (.ofNat 2)], vcCy_s0 n R)) ((M EC (drawA EC) (smC q) 46).call 65 [.slice (some (1, 0)) n (.rest 4), .clos 66 [.ptr (some (2, 0))]] (vcCy_s1 n m R) = some (.int .i64 z, vcCy_s1 n m R) ∧ ifB (!ltF z (.ofNat 0)) (Q (.tuple [.bool false, .int .i64 (.ofNat 7)], vcCy_s2 n R)) ((M EC (drawA EC) (smC q) 54).call 44 [.slice (some (1, 0)) n (.rest 4), .bound 45 [.agg [.int .u64 m, .int .i64 (bif ltF b (Int.negSucc 0) then Int.negSucc 0 else b), .bool w, .bool false]] []] (vcCy_s3 n m b w R) = some (.bool false, vcCy_s3 n m b w R) ∧ holdsO [] ∧ still (vcCy_s4 n m b w R) (aSlice EC 35 (.slice (some (1, 0)) n (.rest 4)) none (some (.int .i64 (.ofNat n))) (some (.int .i64 (.ofNat n))) (vcCy_s4 n m b w R)) = some (.slice (some (1, 0)) n (.known n), vcCy_s4 n m b w R) ∧ aBuiltinM EC .append [35, 35] [.slice (some (1, 0)) n (.known n), .slice (some (21, 0)) 1 (.known 1)] (vcCy_s5 n m b w R) = some (.slice (some (26, 0)) (n + 1) (.rest 4), vcCy_s6 n m b w R N) ∧ holdsO [(some (.agg [.int .u64 m, .int .i64 (bif ltF b (Int.negSucc 0) then Int.negSucc 0 else b), .bool w, .bool true]), .agg [.int .u64 m, .int .i64 (bif ltF b (Int.negSucc 0) then Int.negSucc 0 else b), .bool w, .bool true])] ∧ Q (.tuple [.bool true, .int .i64 (.ofNat 0)], vcCy_s7 n R N)))) =
  (tCy q n m b z w h R N).allY (fun r => Q (r.1, canS [0, 1, 26] r.2)) (.b .nil (.v (.int .i64 z, vcCy_s1 n m R) (.b .nil (.v (.bool false, vcCy_s3 n m b w R) (.v (.slice (some (1, 0)) n (.known n), vcCy_s4 n m b w R) (.v (.slice (some (26, 0)) (n + 1) (.rest 4), vcCy_s6 n m b w R N) .nil)))))) := by kernel_rfl
noncomputable def vcCn_s0 : ASt := mkSt [(0, .cells [.bool true, .slice none 0 (.known 0)] true), (1, .dead)] 2
noncomputable def vcCn_s1 (m : Int) : ASt := mkSt [(0, .cells [.bool true, .slice none 0 (.known 0)] true), (1, .dead), (2, .cells [.int .u64 m] true)] 3
noncomputable def vcCn_s2 : ASt := mkSt [(0, .cells [.bool true, .slice none 0 (.known 0)] true), (1, .dead)] 3
noncomputable def vcCn_s3 (m : Int) (b : Int) (w : Bool) : ASt := mkSt [(0, .cells [.bool true, .slice none 0 (.known 0)] true), (1, .dead), (2, .cells [.int .u64 m] true), (3, .cells [.int .u64 m, .int .i64 (bif ltF b (Int.negSucc 0) then Int.negSucc 0 else b), .bool w, .bool false] true)] 14
noncomputable def vcCn_s4 (m : Int) (b : Int) (w : Bool) : ASt := mkSt [(0, .cells [.bool true, .slice none 0 (.known 0)] true), (1, .dead), (2, .cells [.int .u64 m] true), (3, .cells [.int .u64 m, .int .i64 (bif ltF b (Int.negSucc 0) then Int.negSucc 0 else b), .bool w, .bool true] true)] 26
noncomputable def vcCn_s5 (m : Int) (b : Int) (w : Bool) : ASt := mkSt [(0, .cells [.bool true, .slice none 0 (.known 0)] true), (1, .dead), (2, .cells [.int .u64 m] true), (3, .cells [.int .u64 m, .int .i64 (bif ltF b (Int.negSucc 0) then Int.negSucc 0 else b), .bool w, .bool true] true), (21, .cells [.int .u64 m, .int .i64 (bif ltF b (Int.negSucc 0) then Int.negSucc 0 else b), .bool w, .bool true] true)] 26
noncomputable def vcCn_s6 (m : Int) (b : Int) (w : Bool) (N : AO) : ASt := mkSt [(0, .cells [.bool true, .slice none 0 (.known 0)] true), (1, .dead), (2, .cells [.int .u64 m] true), (3, .cells [.int .u64 m, .int .i64 (bif ltF b (Int.negSucc 0) then Int.negSucc 0 else b), .bool w, .bool true] true), (21, .cells [.int .u64 m, .int .i64 (bif ltF b (Int.negSucc 0) then Int.negSucc 0 else b), .bool w, .bool true] true), (26, N)] 27
noncomputable def vcCn_s7 (N : AO) : ASt := mkSt [(0, .cells [.bool true, .slice (some (26, 0)) 1 (.rest 4)] true), (1, .dead), (26, N)] 27
theorem vcCn (q : CallT) (m : Int) (b : Int) (z : Int) (w : Bool) (h : Bool) (N : AO) (Q : AV × ASt → Prop) :
  (ifB (!ltF b (.ofNat 64)) (Q (.tuple [.bool false, .int .i64 (.ofNat 2)], vcCn_s0)) ((M EC (drawA EC) (smC q) 46).call 65 [.slice none 0 (.known 0), .clos 66 [.ptr (some (2, 0))]] (vcCn_s1 m) = some (.int .i64 z, vcCn_s1 m) ∧ ifB (!ltF z (.ofNat 0)) (Q (.tuple [.bool false, .int .i64 (.ofNat 7)], vcCn_s2)) ((M EC (drawA EC) (smC q) 54).call 44 [.slice none 0 (.known 0), .bound 45 [.agg [.int .u64 m, .int .i64 (bif ltF b (Int.negSucc 0) then Int.negSucc 0 else b), .bool w, .bool false]] []] (vcCn_s3 m b w) = some (.bool false, vcCn_s3 m b w) ∧ holdsO [] ∧ still (vcCn_s4 m b w) (aSlice EC 35 (.slice none 0 (.known 0)) none (some (.int .i64 (.ofNat 0))) (some (.int .i64 (.ofNat 0))) (vcCn_s4 m b w)) = some (.slice none 0 (.known 0), vcCn_s4 m b w) ∧ aBuiltinM EC .append [35, 35] [.slice none 0 (.known 0), .slice (some (21, 0)) 1 (.known 1)] (vcCn_s5 m b w) = some (.slice (some (26, 0)) 1 (.rest 4), vcCn_s6 m b w N) ∧ holdsO [(some (.agg [.int .u64 m, .int .i64 (bif ltF b (Int.negSucc 0) then Int.negSucc 0 else b), .bool w, .bool true]), .agg [.int .u64 m, .int .i64 (bif ltF b (Int.negSucc 0) then Int.negSucc 0 else b), .bool w, .bool true])] ∧ Q (.tuple [.bool true, .int .i64 (.ofNat 0)], vcCn_s7 N)))) =
  (tCn q m b z w h N).allY (fun r => Q (r.1, canS [0, 1, 26] r.2)) (.b .nil (.v (.int .i64 z, vcCn_s1 m) (.b .nil (.v (.bool false, vcCn_s3 m b w) (.v (.slice none 0 (.known 0), vcCn_s4 m b w) (.v (.slice (some (26, 0)) 1 (.rest 4), vcCn_s6 m b w N) .nil)))))) := by kernel_rfl
end Go.Proofs.Ytelehjeifhelnaa.ovp
end

section
open Go Go.Ax Go.Proofs
namespace Go.Proofs.Ytelehjeifhelnaa.ovp
set_option linter.unusedVariables false
theorem ECok : Env.Ok Try.prog EC := envEx_ok (xs := []) ⟨⟨Try.func12, Try.call12⟩, ⟨Try.func40, Try.call40⟩, ⟨Try.func43, Try.call43⟩, ⟨Try.func46, Try.call46⟩, trivial⟩ trivial (by kernel_rfl)
theorem cp35 : appT EC 35 35 = some (4, 24) := by kernel_rfl
def negB (b : Int) : Int := bif ltF b (Int.negSucc 0) then Int.negSucc 0 else b
def newQ (m b : Int) (w y : Bool) : RQ := ⟨m, negB b, w, y⟩
def ComeQ (l : List RQ) (R : AO) (m b : Int) (w : Bool) (q : AV × ASt) : Prop :=
  (ltF b (.ofNat 64) = false ∧ q = (.tuple [.bool false, .int .i64 (.ofNat 2)], mkSt [(0, tob (slT l.length)), (1, R)] 2)) ∨
  (ltF b (.ofNat 64) = true ∧ l.any (findP m) = true ∧ q = (.tuple [.bool false, .int .i64 (.ofNat 7)], mkSt [(0, tob (slT l.length)), (1, R)] 3)) ∨
  (ltF b (.ofNat 64) = true ∧ l.any (findP m) = false ∧ q = (.tuple [.bool (!l.any (hindB (newQ m b w false))), .int .i64 (.ofNat 0)],
    mkSt [(0, tob (.slice (some (26, 0)) (l.length + 1) (.rest 4))), (1, R), (26, .cells ((l ++ [newQ m b w (!l.any (hindB (newQ m b w false)))]).flatMap enc4) true)] 27))
section
variable {l : List RQ} {m b : Int} {w : Bool} {R : List AV}
theorem come_tab {f g : Nat} {a a' : List AV} {S S' : ASt} {r r' : AV × ASt} (h : Call1 Try.prog f a S r) (h' : Call1 Try.prog g a' S' r') : CallsOK Try.prog (smC (tabC [(f, a, S, r), (g, a', S', r')])) := onlyC_ok (tabC_ok fun e he => by
  simp only [List.mem_cons, List.not_mem_nil, or_false] at he
  rcases he with rfl | rfl
  · exact h
  · exact h')
theorem room_le {S : ASt} {i o n : Nat} : Nat.ble n (aRoom S i o 4 n) = true := by
  apply Nat.ble_eq_true_of_le
  unfold aRoom
  split
  · show n ≤ Nat.max n _
    exact Nat.le_max_left _ _
  · exact Nat.le_refl _
theorem clip {S : ASt} {n : Nat} : still S (aSlice EC 35 (.slice (some (1, 0)) n (.rest 4)) none (some (.int .i64 (.ofNat n))) (some (.int .i64 (.ofNat n))) S) = some (.slice (some (1, 0)) n (.known n), S) := by
  have e : aSlice EC 35 (.slice (some (1, 0)) n (.rest 4)) none (some (.int .i64 (.ofNat n))) (some (.int .i64 (.ofNat n))) S =
    (match (bif Nat.ble n (aRoom S 1 0 4 n) then bif Nat.ble n n then bif Nat.ble 0 n then some (0, n, n) else none else none else none : Option (Nat × Nat × Nat)) with
      | some (l, h, m) => some (.slice (some (1, bif Nat.beq m l then 0 else 0 + l * 4)) (h - l) (.known (m - l)))
      | none => none) := by kernel_rfl
  rw [e, room_le, cond_true, Nat.ble_eq_true_of_le (Nat.le_refl n), cond_true, Nat.ble_eq_true_of_le (Nat.zero_le n), cond_true]
  show some (AV.slice (some (1, bif Nat.beq n 0 then 0 else 0 + 0 * 4)) (n - 0) (.known (n - 0)), S) = _
  cases Nat.beq n 0 <;> rfl
theorem comeRun (hl : l.length < 4398046511104) (h0 : l ≠ []) (hR : takeL R 0 (l.flatMap enc4).length = some (l.flatMap enc4)) (B : Prot) (w0 : World) (ι : Ren) (W : World) (args' : Array Value) (hsr : SR B w0 ι (mkSt [(0, tob (slT l.length)), (1, .cells R true)] 2) W)
    (hv : VRs ι [.ptr (some (0, 0)), .int .u64 m, .int .i64 b, .bool w] args') :
    (callFunc 12 args').run Try.prog W = .ok (.enter 12 args') W ∧ CallsIn Fence.wide 0 Try.prog 12 args' W fun e w' => ∃ v, ComeQ l (.cells R true) m b w v ∧ Post B w0 ι v e w' := by
  have hb64 : ∀ {P : Prop}, (!ltF b (.ofNat 64)) = true → (ltF b (.ofNat 64) = false → P) → P := fun h k => k (by rw [Bool.not_eq_true'] at h; exact h)
  have r1 : ∀ {S : ASt}, S.h.get 1 = some (.cells R true) → RowIn S 1 l := fun h => ⟨R, true, h, hR⟩
  have c1 : Call1 Try.prog 65 [.slice (some (1, 0)) l.length (.rest 4), .clos 66 [.ptr (some (2, 0))]] (vcCx_s1 l.length m (.cells R true)) (.int .i64 (idxV (findP m) l), vcCx_s1 l.length m (.cells R true)) := find_any (rw' := true) (by omega) h0 (r1 (by kernel_rfl)) (by kernel_rfl)
  have c2 : Call1 Try.prog 44 [.slice (some (1, 0)) l.length (.rest 4), bd (newQ m b w false)] (vcCx_s3 l.length m b w (.cells R true)) (.bool (l.any (hindB (newQ m b w false))), vcCx_s3 l.length m b w (.cells R true)) := cont_any (by omega) h0 (r1 (by kernel_rfl))
  have avs : ∀ y : Bool, avEq (.agg [.int .u64 m, .int .i64 (bif ltF b (Int.negSucc 0) then Int.negSucc 0 else b), .bool w, .bool y]) (.agg [.int .u64 m, .int .i64 (bif ltF b (Int.negSucc 0) then Int.negSucc 0 else b), .bool w, .bool y]) = true := fun y => by
    cases w <;> cases y <;> simp [avEq, avsEq, boolEq]
  have old : ∀ {S : ASt}, S.h.get 1 = some (.cells R true) → aFirst S 4 l.length (.slice (some (1, 0)) l.length (.known l.length)) = some (l.flatMap enc4) := fun h => first_at h (by rw [← fm_len enc4_len]; exact hR)
  have g3 : ∀ {P : Prop}, (!ltF b (.ofNat 64)) = false → (ltF b (.ofNat 64) = true → P) → P := fun h k => k (by rw [Bool.not_eq_false'] at h; exact h)
  have hn1 : (2 * (l.length + 1) + 200) * 24 ≤ 281474976710656 := by omega
  cases hh : l.any (hindB (newQ m b w false)) with
  | true =>
    rw [hh] at c2
    refine run_of_tm ECok (come_tab c1 c2) (ko := [0, 1, 26]) (Eq.mp (vcCx (tabC _) l.length m b (idxV (findP m) l) w true (.cells R true) (.cells (l.flatMap enc4 ++ enc4 (newQ m b w false)) true) (ComeQ l (.cells R true) m b w)) (ifB_mk (fun g => hb64 g fun g => .inl ⟨g, rfl⟩) fun g => g3 g fun g => ⟨call_at (onlyC_at rfl (tabC_hd ..)), ifB_mk (fun k => .inr (.inl ⟨g, by rw [← idx_any_neg]; exact k, rfl⟩)) fun k => ⟨call_at (onlyC_at rfl ((tabC_tlf rfl).trans (tabC_hd ..))), trivial, clip, ?_, ⟨⟨rfl, avs _⟩, trivial⟩, .inr (.inr ⟨g, by rw [← idx_any_neg]; exact k, ?_⟩)⟩⟩)) B w0 ι W args' hsr hv
    · exact (append_full_at (l := l.length) (i := 1) (o := 0) (n := 1) (new := enc4 (newQ m b w false)) (old := l.flatMap enc4) cp35 (by kernel_rfl) (first_at (cs := enc4 (newQ m b w false)) (rw := true) (by kernel_rfl) (by kernel_rfl)) (old (by kernel_rfl)) (by decide) hn1 (by omega)).trans (by kernel_rfl)
    · rw [hh, List.flatMap_append]
      rfl
  | false =>
    rw [hh] at c2
    refine run_of_tm ECok (come_tab (c1 : Call1 Try.prog 65 _ (vcCy_s1 l.length m (.cells R true)) (_, vcCy_s1 l.length m (.cells R true))) (c2 : Call1 Try.prog 44 _ (vcCy_s3 l.length m b w (.cells R true)) (_, vcCy_s3 l.length m b w (.cells R true)))) (ko := [0, 1, 26]) (Eq.mp (vcCy (tabC _) l.length m b (idxV (findP m) l) w true (.cells R true) (.cells (l.flatMap enc4 ++ enc4 (newQ m b w true)) true) (ComeQ l (.cells R true) m b w)) (ifB_mk (fun g => hb64 g fun g => .inl ⟨g, rfl⟩) fun g => g3 g fun g => ⟨call_at (onlyC_at rfl (tabC_hd ..)), ifB_mk (fun k => .inr (.inl ⟨g, by rw [← idx_any_neg]; exact k, rfl⟩)) fun k => ⟨call_at (onlyC_at rfl ((tabC_tlf rfl).trans (tabC_hd ..))), trivial, clip, ?_, ⟨⟨rfl, avs _⟩, trivial⟩, .inr (.inr ⟨g, by rw [← idx_any_neg]; exact k, ?_⟩)⟩⟩)) B w0 ι W args' hsr hv
    · exact (append_full_at (l := l.length) (i := 1) (o := 0) (n := 1) (new := enc4 (newQ m b w true)) (old := l.flatMap enc4) cp35 (by kernel_rfl) (first_at (cs := enc4 (newQ m b w true)) (rw := true) (by kernel_rfl) (by kernel_rfl)) (old (by kernel_rfl)) (by decide) hn1 (by omega)).trans (by kernel_rfl)
    · rw [hh, List.flatMap_append]
      rfl
end
end Go.Proofs.Ytelehjeifhelnaa.ovp
end

section
open Go Go.Ax Go.Proofs
namespace Go.Proofs.Ytelehjeifhelnaa.ovp
set_option linter.unusedVariables false
section
variable {S : ASt} {b : Nat} {rw' : Bool}
theorem find_0 {m : Int} {A : AV} (hA : refsV 0 A) (h0 : AtMem Try.prog 65 [A, .clos 66 [.ptr (some (0, 0))]] (mkSt [(0, .cells [.int .u64 m] false)] 1) (.int .i64 (-1))) (hb : S.h.get b = some (.cells [.int .u64 m] rw')) :
    Call1 Try.prog 65 [A, .clos 66 [.ptr (some (b, 0))]] S (.int .i64 (-1), S) := by
  refine Call1.read h0 (by simp [refsV]) (l := [(b, 0, [.int .u64 m])]) rfl (fun j x hj => ?_) (fun j q hq => ?_) fun ι args' hv => ⟨hv.size, fun k y y' hy hy' => ?_⟩
  · obtain ⟨rfl, rfl⟩ := get1 hj
    exact ⟨_, rfl, rfl⟩
  · match j, hq with
    | 0, hq => simp at hq; subst hq; exact ⟨by simp, by simp [refsV], _, _, hb, by kernel_rfl⟩
    | j + 1, hq => simp at hq
  · match k, hy with
    | 0, hy => simp at hy; subst hy; exact (hv.at_ 0 _ y' rfl hy').noRef hA
    | 1, hy =>
      simp at hy; subst hy
      cases hv.at_ 1 _ y' rfl hy' with
      | clos f ds ds' hs h =>
        refine .clos _ _ _ hs fun i x x' hx hx' => ?_
        match i, hx with
        | 0, hx => simp at hx; subst hx; exact VR.ptrR (l := [(b, 0, [.int .u64 m])]) (j := 0) rfl rfl rfl (h 0 _ x' rfl hx')
        | i + 1, hx => simp at hx
    | k + 2, hy => simp at hy
theorem find_nil {m : Int} (hb : S.h.get b = some (.cells [.int .u64 m] rw')) : Call1 Try.prog 65 [.slice none 0 (.known 0), .clos 66 [.ptr (some (b, 0))]] S (.int .i64 (-1), S) :=
  find_0 (by simp [refsV]) (AtMem.of_tm EVok noSum_ok (Eq.mp (vcN0 _ _ (fun q => q.1 = .int .i64 (-1))) rfl)) hb
theorem read0 {f : Nat} {A F v : AV} (hA : refsV 0 A) (hF : refsV 0 F) (hrun : AtMem Try.prog f [A, F] (mkSt [] 0) v) (hp : refsV 0 v) : Call1 Try.prog f [A, F] S (v, S) :=
  Call1.read hrun hp (l := []) rfl (fun j x hj => by
    have : (mkSt [] 0).h.get j = none := T.get_e j
    rw [this] at hj; cases hj) (fun j q hq => by simp at hq) fun ι args' hv => ⟨hv.size, fun k y y' hy hy' => by
    match k, hy with
    | 0, hy => simp at hy; subst hy; exact (hv.at_ 0 _ y' rfl hy').noRef hA
    | 1, hy => simp at hy; subst hy; exact (hv.at_ 1 _ y' rfl hy').noRef hF
    | k + 2, hy => simp at hy⟩
theorem cont_nil {rr : RQ} : Call1 Try.prog 44 [.slice none 0 (.known 0), bd rr] S (.bool false, S) := by
  have hc : Call1 Try.prog 65 [.slice none 0 (.known 0), bd rr] (mkSt [] 0) (.int .i64 (-1), mkSt [] 0) :=
    read0 (by simp [refsV]) bd_refs (AtMem.of_tm EVok noSum_ok (Eq.mp (vcN0 _ _ (fun q => q.1 = .int .i64 (-1))) rfl)) (by simp [refsV])
  have hq : CallsOK Try.prog (smV (tabC [(65, [.slice none 0 (.known 0), bd rr], mkSt [] 0, (.int .i64 (-1), mkSt [] 0))])) := onlyC_ok (tabC_ok fun e he => by
    simp only [List.mem_cons, List.not_mem_nil, or_false] at he
    subst he; exact hc)
  exact read0 (by simp [refsV]) bd_refs (AtMem.of_tm EVok hq (Eq.mp (vcQ (tabC _) _ (bd rr) (-1) (mkSt [] 0) (fun q => q.1 = .bool false)) ⟨call_at (onlyC_at rfl (tabC_hd ..)), rfl⟩)) (by simp [refsV])
theorem at_nil {m : Int} : Call1 Try.prog 37 [.slice none 0 (.known 0), .int .u64 m] S (.int .i64 (-1), S) :=
  read0 (by simp [refsV]) (by simp [refsV]) (AtMem.of_tm EVok noSum_ok (Eq.mp (vcP0 _ _ (fun q => q.1 = .int .i64 (-1))) rfl)) (by simp [refsV])
end
end Go.Proofs.Ytelehjeifhelnaa.ovp
end

section
open Go Go.Ax Go.Proofs
namespace Go.Proofs.Ytelehjeifhelnaa.ovp
set_option linter.unusedVariables false
noncomputable def tobN : AO := tob (.slice none 0 (.known 0))
def ComeN (m b : Int) (w : Bool) (q : AV × ASt) : Prop :=
  (ltF b (.ofNat 64) = false ∧ q = (.tuple [.bool false, .int .i64 (.ofNat 2)], mkSt [(0, tobN), (1, .dead)] 2)) ∨
  (ltF b (.ofNat 64) = true ∧ q = (.tuple [.bool true, .int .i64 (.ofNat 0)], mkSt [(0, tob (.slice (some (26, 0)) 1 (.rest 4))), (1, .dead), (26, .cells (enc4 (newQ m b w true)) true)] 27))
section
variable {m b : Int} {w : Bool}
theorem clipN {S : ASt} : still S (aSlice EC 35 (.slice none 0 (.known 0)) none (some (.int .i64 (.ofNat 0))) (some (.int .i64 (.ofNat 0))) S) = some (.slice none 0 (.known 0), S) := by kernel_rfl
theorem comeNil (B : Prot) (w0 : World) (ι : Ren) (W : World) (args' : Array Value) (hsr : SR B w0 ι (mkSt [(0, tobN), (1, .dead)] 2) W) (hv : VRs ι [.ptr (some (0, 0)), .int .u64 m, .int .i64 b, .bool w] args') :
    (callFunc 12 args').run Try.prog W = .ok (.enter 12 args') W ∧ CallsIn Fence.wide 0 Try.prog 12 args' W fun e w' => ∃ v, ComeN m b w v ∧ Post B w0 ι v e w' := by
  have c1 : Call1 Try.prog 65 [.slice none 0 (.known 0), .clos 66 [.ptr (some (2, 0))]] (vcCn_s1 m) (.int .i64 (-1), vcCn_s1 m) := find_nil (rw' := true) (m := m) (by kernel_rfl)
  have c2 : Call1 Try.prog 44 [.slice none 0 (.known 0), bd (newQ m b w false)] (vcCn_s3 m b w) (.bool false, vcCn_s3 m b w) := cont_nil
  have avs : ∀ y : Bool, avEq (.agg [.int .u64 m, .int .i64 (bif ltF b (Int.negSucc 0) then Int.negSucc 0 else b), .bool w, .bool y]) (.agg [.int .u64 m, .int .i64 (bif ltF b (Int.negSucc 0) then Int.negSucc 0 else b), .bool w, .bool y]) = true := fun y => by
    cases w <;> cases y <;> simp [avEq, avsEq, boolEq]
  refine run_of_tm ECok (come_tab c1 c2) (ko := [0, 1, 26]) (Eq.mp (vcCn (tabC _) m b (-1) w true (.cells (enc4 (newQ m b w true)) true) (ComeN m b w)) (ifB_mk (fun g => .inl ⟨by rw [Bool.not_eq_true'] at g; exact g, rfl⟩) fun g => ⟨call_at (onlyC_at rfl (tabC_hd ..)), ifB_mk (fun k => by cases k) fun k => ⟨call_at (onlyC_at rfl ((tabC_tlf rfl).trans (tabC_hd ..))), trivial, clipN, ?_, ⟨⟨rfl, avs _⟩, trivial⟩, .inr ⟨by rw [Bool.not_eq_false'] at g; exact g, rfl⟩⟩⟩)) B w0 ι W args' hsr hv
  exact (append_nil_at cp35 (n := 1) (new := enc4 (newQ m b w true)) (by kernel_rfl) (first_at (cs := enc4 (newQ m b w true)) (rw := true) (by kernel_rfl) (by kernel_rfl)) (by decide) (by decide) (by decide)).trans (by kernel_rfl)
end
end Go.Proofs.Ytelehjeifhelnaa.ovp
end

section
open Go Go.Ax Go.Proofs
namespace Go.Proofs.Ytelehjeifhelnaa.ovp
set_option linter.unusedVariables false
section
variable {l : List RQ} {S : ASt} {rw' : Bool} {r b g : Nat} {c : Cap} {x : AV}
theorem read2 {f : Nat} {v : AV} (h0 : l ≠ []) (hr : RowIn S r l) (hx : refsV 0 x) (hb : S.h.get b = some (.cells [x] rw'))
    (hrun : AtMem Try.prog f [.slice (some (0, 0)) l.length (.atl l.length), .clos g [.ptr (some (1, 0))]] (mkSt [(0, rowT l), (1, .cells [x] false)] 2) v) (hp : refsV 0 v) :
    Call1 Try.prog f [.slice (some (r, 0)) l.length c, .clos g [.ptr (some (b, 0))]] S (v, S) := by
  obtain ⟨cs, rw, g1, g2⟩ := hr
  refine Call1.read hrun hp (l := [(r, 0, l.flatMap enc4), (b, 0, [x])]) rfl (fun j y hj => ?_) (fun j q hq => ?_) fun ι args' hv => ⟨hv.size, fun k y y' hy hy' => ?_⟩
  · rcases get2 hj with ⟨rfl, rfl⟩ | ⟨rfl, rfl⟩
    · exact ⟨_, rfl, rfl⟩
    · exact ⟨_, rfl, rfl⟩
  · match j, hq with
    | 0, hq => simp at hq; subst hq; exact ⟨fm_ne h0, enc4_refs, cs, rw, g1, g2⟩
    | 1, hq => simp at hq; subst hq; exact ⟨by simp, fun c hc => by simp at hc; subst hc; exact hx, _, _, hb, by kernel_rfl⟩
    | j + 2, hq => simp at hq
  · match k, hy with
    | 0, hy => simp at hy; subst hy; exact VR.rowR (l := [(r, 0, l.flatMap enc4), (b, 0, [x])]) (j := 0) rfl rfl rfl (hv.at_ 0 _ y' rfl hy')
    | 1, hy =>
      simp at hy; subst hy
      cases hv.at_ 1 _ y' rfl hy' with
      | clos f ds ds' hs h =>
        refine .clos _ _ _ hs fun i z z' hz hz' => ?_
        match i, hz with
        | 0, hz => simp at hz; subst hz; exact VR.ptrR (l := [(r, 0, l.flatMap enc4), (b, 0, [x])]) (j := 1) rfl rfl rfl (h 0 _ z' rfl hz')
        | i + 1, hz => simp at hz
    | k + 2, hy => simp at hy
theorem rowAll : RowIn (mkSt [(0, rowT l), (1, .cells [x] false)] 2) 0 l := ⟨l.flatMap enc4, false, by kernel_rfl, by
  have := fm_all (enc := enc4) enc4_len (l := l)
  rw [fm_len enc4_len]; exact this⟩
theorem busy_any {m : Int} (hl : l.length < 4611686018427387904) (h0 : l ≠ []) (hr : RowIn S r l) (hb : S.h.get b = some (.cells [.int .i64 m] rw')) :
    Call1 Try.prog 44 [.slice (some (r, 0)) l.length c, .clos 49 [.ptr (some (b, 0))]] S (.bool (l.any (busyP m)), S) := by
  refine read2 h0 hr (by simp [refsV]) hb ?_ (by simp [refsV])
  have hc : Call1 Try.prog 65 [.slice (some (0, 0)) l.length (.atl l.length), clB] (stY (rowT l) m) (.int .i64 (idxV (busyP m) l), stY (rowT l) m) :=
    read2 (rw' := false) h0 rowAll (by simp [refsV]) (by kernel_rfl) (atB (l := l) (m := m) hl) (by simp [refsV])
  have hq : CallsOK Try.prog (smV (tabC [(65, [.slice (some (0, 0)) l.length (.atl l.length), clB], stY (rowT l) m, (.int .i64 (idxV (busyP m) l), stY (rowT l) m))])) := onlyC_ok (tabC_ok fun e he => by
    simp only [List.mem_cons, List.not_mem_nil, or_false] at he
    subst he; exact hc)
  exact AtMem.of_tm EVok hq (Eq.mp (vcQ (tabC _) _ clB (idxV (busyP m) l) (stY (rowT l) m) (fun q => q.1 = .bool (l.any (busyP m)))) ⟨call_at (onlyC_at rfl (tabC_hd ..)), by rw [idx_any_neg]⟩)
end
end Go.Proofs.Ytelehjeifhelnaa.ovp
end

section
open Go Go.Ax Go.Proofs
namespace Go.Proofs.Ytelehjeifhelnaa.ovp
set_option linter.unusedVariables false
noncomputable def ES : Env := envEx Try.prog [0, 3, 4, 5, 30, 42] [(39, Try.f39)] []
noncomputable def c39 : Code := Option.getD Try.f39.body .skip
noncomputable def L39 : Code := lopB (blkB (seqR (seqL (dropC 1 c39))))
def sU (i n : Nat) : AV := .slice (some (i, 0)) n (.atl n)
noncomputable def fr39 (n i : Nat) : AFr := xFr [(0, sU 0 n), (1, sU 1 n), (4, .bool false), (5, nI i)] 26
noncomputable def S39 (R R1 : AO) : ASt := mkSt [(0, R), (1, R1)] 2
noncomputable def tSa (n : Nat) (R R1 : AO) : Tr (Exit × AFr × ASt) := (TM ES noSum [] fl0 60).ex ⟨[10], [], [], []⟩ none (preC 1 c39) { m := putArgs [sU 0 n, sU 1 n] 0 .e, n := 26, defs := [] } (S39 R R1)
noncomputable def tSi (n : Nat) (R R1 : AO) : Tr (Exit × AFr × ASt) := (TM ES noSum [] fl0 60).ex fl0 none (seqL (seqL (dropC 1 c39))) (xFr [(0, sU 0 n), (1, sU 1 n), (4, .bool false)] 26) (S39 R R1)
noncomputable def tSr (n i : Nat) (a : Int) (R R1 : AO) : Tr (Exit × AFr × ASt) := (TM ES noSum [] fl0 60).ex ⟨[19, 20, 23, 24, 25], [], [14], []⟩ none L39 (fr39 n i) (S39 R R1)
noncomputable def tSz (n : Nat) (R R1 : AO) : Tr (Exit × AFr × ASt) := (TM ES noSum [] fl0 60).ex fl0 none (dropC 2 c39) (fr39 n n) (S39 R R1)
noncomputable def vcSa_s0 (R : AO) (R1 : AO) : ASt := mkSt [(0, R), (1, R1)] 2
theorem vcSa (n : Nat) (R : AO) (R1 : AO) (Q : Exit × AFr × ASt → Prop) (Q2 : Exit × Option AV → Prop) :
  (still (vcSa_s0 R R1) (aBin ES .neq 3 (.tmp 7) (.tmp 9) (.int .i64 (.ofNat n)) (.int .i64 (.ofNat n))) = some (.bool false, vcSa_s0 R R1) ∧ Q (.normal, xFr [(0, .slice (some (0, 0)) n (.atl n)), (1, .slice (some (1, 0)) n (.atl n)), (4, .bool false)] 26, vcSa_s0 R R1)) =
  (tSa n R R1).allY (mixQ ES Try.f39 [0, 1, 4] [0, 1] Q Q2) (.v (.bool false, vcSa_s0 R R1) .nil) := by kernel_rfl
noncomputable def vcSi_s0 (R : AO) (R1 : AO) : ASt := mkSt [(0, R), (1, R1)] 2
theorem vcSi (n : Nat) (R : AO) (R1 : AO) (Q : Exit × AFr × ASt → Prop) :
  (Q (.normal, xFr [(0, .slice (some (0, 0)) n (.atl n)), (1, .slice (some (1, 0)) n (.atl n)), (4, .bool false), (5, .int .i64 (.ofNat 0))] 26, vcSi_s0 R R1)) =
  (tSi n R R1).allY (fun r => Q (canR [0, 1, 4, 5] [0, 1] r)) (.nil) := by kernel_rfl
noncomputable def vcSr_s0 (R : AO) (R1 : AO) : ASt := mkSt [(0, R), (1, R1)] 11
noncomputable def vcSr_s1 (R : AO) (R1 : AO) : ASt := mkSt [(0, R), (1, R1)] 2
theorem vcSr (n : Nat) (i : Nat) (a : Int) (R : AO) (R1 : AO) (Q : Exit × AFr × ASt → Prop) :
  (ifB (ltF (.ofNat i) (.ofNat n)) (still (vcSr_s0 R R1) (aIndexAddr ES 42 (.slice (some (0, 0)) n (.atl n)) (.int .i64 (.ofNat i))) = some (.ptr (some (0, i)), vcSr_s0 R R1) ∧ aLoad ES 30 (.ptr (some (0, i))) (vcSr_s0 R R1) = some (.int .u64 a, vcSr_s0 R R1) ∧ still (vcSr_s0 R R1) (aIndexAddr ES 42 (.slice (some (1, 0)) n (.atl n)) (.int .i64 (.ofNat i))) = some (.ptr (some (1, i)), vcSr_s0 R R1) ∧ aLoad ES 30 (.ptr (some (1, i))) (vcSr_s0 R R1) = some (.int .u64 a, vcSr_s0 R R1) ∧ still (vcSr_s0 R R1) (aBin ES .neq 30 (.tmp 20) (.tmp 24) (.int .u64 a) (.int .u64 a)) = some (.bool false, vcSr_s0 R R1) ∧ Q (.normal, xFr [(0, .slice (some (0, 0)) n (.atl n)), (1, .slice (some (1, 0)) n (.atl n)), (4, .bool false), (5, .int .i64 (wrapF .i64 (.ofNat i + .ofNat 1)))] 26, vcSr_s0 R R1)) (Q (.exit 0, xFr [(0, .slice (some (0, 0)) n (.atl n)), (1, .slice (some (1, 0)) n (.atl n)), (4, .bool false), (5, .int .i64 (.ofNat i))] 26, vcSr_s1 R R1))) =
  (tSr n i a R R1).allY (fun r => Q (canR [0, 1, 4, 5] [0, 1] r)) (.b (.v (.ptr (some (0, i)), vcSr_s0 R R1) (.v (.int .u64 a, vcSr_s0 R R1) (.v (.ptr (some (1, i)), vcSr_s0 R R1) (.v (.int .u64 a, vcSr_s0 R R1) (.v (.bool false, vcSr_s0 R R1) .nil))))) .nil) := by kernel_rfl
theorem vcSz (n : Nat) (R : AO) (R1 : AO) (Q : Exit × Option AV → Prop) :
  (Q (.ret, some (.bool true))) =
  (tSz n R R1).allY (fun r => Q (r.1, ans (leaveA ES Try.f39 r.2.1 r.2.2))) (.nil) := by kernel_rfl
end Go.Proofs.Ytelehjeifhelnaa.ovp
end

section
open Go Go.Ax Go.Proofs
namespace Go.Proofs.Ytelehjeifhelnaa.ovp
set_option linter.unusedVariables false
theorem ESok : Env.Ok Try.prog ES := envEx_ok (xs := []) ⟨⟨Try.func39, Try.call39⟩, trivial⟩ trivial (by kernel_rfl)
theorem sl42 : sliceT ES 42 = some 1 := by kernel_rfl
theorem ce30 : cellT ES 30 = true := by kernel_rfl
def cu (z : Int) : AV := .int .u64 z
def rowU (x : List Int) : AO := .cells (x.map cu) false
section
variable {x : List Int} {i n : Nat} {a : Int} {S : ASt}
theorem uidx {k : Nat} (hi : i < n) : still S (aIndexAddr ES 42 (.slice (some (k, 0)) n (.atl n)) (.int .i64 (.ofNat i))) = some (.ptr (some (k, i)), S) := by
  have := idx_at (E := ES) (t := 42) (i := k) (o := 0) (n := n) (c := .atl n) (kd := .i64) sl42 hi
  rw [Nat.zero_add, Nat.mul_one] at this
  exact still_of this
theorem uload {k : Nat} (hS : S.h.get k = some (rowU x)) (ha : x[i]? = some a) : aLoad ES 30 (.ptr (some (k, i))) S = some (.int .u64 a, S) := load_at ce30 hS (by rw [List.getElem?_map, ha]; rfl)
theorem une {t t' ty : Nat} {kd : IntKind} (h : ∀ z : Int, aBin ES .neq ty (.tmp t) (.tmp t') (.int kd z) (.int kd z) = some (.bool (!eqF z z))) (z : Int) : still S (aBin ES .neq ty (.tmp t) (.tmp t') (.int kd z) (.int kd z)) = some (.bool false, S) := by
  rw [h, eqF_self]; rfl
noncomputable def st39 (x : List Int) : ASt := S39 (rowU x) (rowU x)
theorem held39 {k nx : Nat} (hx : nx = 2 ∨ nx = 11) : Wk 2 (fr39 x.length k) (mkSt [(0, rowU x), (1, rowU x)] nx) (fr39 x.length k) (st39 x) := by
  have hc : Came (rowU x) := .inr ⟨_, _, rfl, fun c hc => by
    obtain ⟨z, _, rfl⟩ := List.mem_map.1 hc
    simp [cu, refsV]⟩
  have hs : StP [0, 1] (mkSt [(0, rowU x), (1, rowU x)] nx) [(0, rowU x), (1, rowU x)] := .came hc rfl (by rcases hx with rfl | rfl <;> kernel_rfl) (.came hc rfl (by rcases hx with rfl | rfl <;> kernel_rfl) .nil)
  have hf : frE [0, 1] (fr39 x.length k) [0, 1, 4, 5] = some [(0, sU 0 x.length), (1, sU 1 x.length), (4, .bool false), (5, nI k)] := by kernel_rfl
  exact Wk.heldX (kb := 2) [0, 1] (by kernel_rfl) (by kernel_rfl) [0, 1, 4, 5] hf hs
def Q39 (x : List Int) (i : Nat) (q : Exit × AFr × ASt) : Prop := (i < x.length ∧ Stops 2 .normal (fr39 x.length (i + 1)) (st39 x) q) ∨ (i = x.length ∧ Stops 2 (.exit 0) (fr39 x.length i) (st39 x) q)
theorem round39 (hl : x.length < 4611686018427387904) (hi : i ≤ x.length) : Trip Try.prog 2 none L39 (fr39 x.length i) (st39 x) (Q39 x i) := by
  have fin : ∀ {a : Int} {ys}, (tSr x.length i a (rowU x) (rowU x)).allY (fun r => Q39 x i (canR [0, 1, 4, 5] [0, 1] r)) ys → Trip Try.prog 2 none L39 (fr39 x.length i) (st39 x) (Q39 x i) := fun h =>
    (Trip.runY ESok noSum_ok h).mono fun r hr => hr.imp (fun h => ⟨h.1, h.2.can⟩) (fun h => ⟨h.1, h.2.can⟩)
  by_cases e : i < x.length
  · obtain ⟨a, ha⟩ : ∃ a, x[i]? = some a := ⟨_, List.getElem?_eq_getElem e⟩
    refine fin (a := a) (Eq.mp (vcSr x.length i a (rowU x) (rowU x) (Q39 x i)) (ifB_mk (fun _ => ⟨uidx e, uload (by kernel_rfl) ha, uidx e, uload (by kernel_rfl) ha, une (fun z => by kernel_rfl) a, .inl ⟨e, rfl, ?_⟩⟩) fun h => nlt' e h))
    rw [wI e hl]
    exact held39 (.inr rfl)
  · have ek : i = x.length := by omega
    refine fin (a := 0) (Eq.mp (vcSr x.length i 0 (rowU x) (rowU x) (Q39 x i)) (ifB_mk (fun h => ?_) fun _ => .inr ⟨ek, rfl, Wk.refl _ _ _⟩))
    rw [ltF_nn] at h
    exact absurd (of_decide_eq_true h) e
theorem shape39 : dropC 1 c39 = .seq (.seq (seqL (seqL (dropC 1 c39))) (.block 0 (.loop L39))) (dropC 2 c39) := by kernel_rfl
theorem at39 (hl : x.length < 4611686018427387904) : AtMem Try.prog 39 [sU 0 x.length, sU 1 x.length] (st39 x) (.bool true) := by
  refine AtMem.of_trip ESok (fn := Try.f39) (by kernel_rfl) (c := c39) (by kernel_rfl) (by kernel_rfl) ?_
  have hfr : ({ m := putArgs [sU 0 x.length, sU 1 x.length] 0 .e, n := Try.f39.ntmps, defs := [] } : AFr) = { m := putArgs [sU 0 x.length, sU 1 x.length] 0 .e, n := 26, defs := [] } := by kernel_rfl
  rw [hfr]
  refine Trip.preM ESok noSum_ok (fn := Try.f39) (k := 1) (kf := [0, 1, 4]) (ko := [0, 1]) (Q1 := fun q => q = (.normal, xFr [(0, sU 0 x.length), (1, sU 1 x.length), (4, .bool false)] 26, st39 x)) (Q2 := fun _ => False) (by kernel_rfl)
    (Eq.mp (vcSa x.length (rowU x) (rowU x) (fun q => q = (.normal, xFr [(0, sU 0 x.length), (1, sU 1 x.length), (4, .bool false)] 26, st39 x)) (fun _ => False)) ⟨une (fun z => by kernel_rfl) _, by kernel_rfl⟩) ?_ (fun r _ h => h.elim) (fun r h1 _ h => absurd (congrArg Prod.fst h) h1)
  rintro F' S' h
  cases h
  rw [shape39]
  refine Trip.seq (R := Stops 2 .normal (fr39 x.length x.length) (st39 x)) (Trip.seq (R := Stops 2 .normal (fr39 x.length 0) (st39 x))
    ((Trip.runY ESok noSum_ok (Eq.mp (vcSi x.length (rowU x) (rowU x) (Stops 2 .normal (fr39 x.length 0) (st39 x))) ⟨rfl, Wk.refl _ _ _⟩)).mono fun q hq => Stops.can hq) (fun fr' st' hq => Trip.less hq.2 ?_) (fun e fr' st' hne hq => absurd hq.1 hne)) (fun fr' st' hq => ?_) (fun e fr' st' hne hq => absurd hq.1 hne)
  · refine Trip.block (Trip.loop (fun μ fr st => ∃ k, k ≤ x.length ∧ μ = x.length - k ∧ fr = fr39 x.length k ∧ st = st39 x) ?_ x.length ⟨0, by omega, by omega, rfl, rfl⟩)
    rintro μ fr st ⟨k, hk, rfl, rfl, rfl⟩
    refine (round39 hl hk).mono ?_
    rintro ⟨e, fr', st'⟩ (⟨h2, h4, h5⟩ | ⟨h2, h4, h5⟩)
    · simp only at h4
      subst h4
      exact ⟨x.length - (k + 1), _, _, by omega, h5, k + 1, by omega, rfl, rfl, rfl⟩
    · simp only at h4
      subst h4
      subst h2
      exact ⟨fun _ => ⟨rfl, h5⟩, fun h => absurd rfl h⟩
  · exact Trip.less hq.2 ((Trip.runY ESok noSum_ok (Eq.mp (vcSz x.length (rowU x) (rowU x) (fun q => q = (.ret, some (.bool true)))) rfl)).mono fun q hq => ⟨.inr (congrArg Prod.fst hq), congrArg Prod.snd hq⟩)
end
end Go.Proofs.Ytelehjeifhelnaa.ovp
end

section
open Go Go.Ax Go.Proofs
namespace Go.Proofs.Ytelehjeifhelnaa.ovp
set_option linter.unusedVariables false
noncomputable def EN : Env := envEx Try.prog [0, 3, 4, 5, 27, 30, 42, 77] [(42, Try.f42)] []
noncomputable def c42 : Code := Option.getD Try.f42.body .skip
noncomputable def L42 : Code := lopB (blkB (seqR (seqL (dropC 1 c42))))
noncomputable def fr42 (w : Bool) (V : AV) (n i : Nat) : AFr := xFr [(0, sU 0 n), (1, .bool w), (4, .slice none 0 (.known 0)), (5, V), (6, nI i)] 29
noncomputable def S42 (R O : AO) : ASt := mkSt [(0, R), (1, O)] 2
noncomputable def tNa (w : Bool) (n : Nat) (R : AO) : Tr (Exit × AFr × ASt) := (TM EN noSum [] fl0 60).ex fl0 none (preC 1 c42) { m := putArgs [sU 0 n, .bool w] 0 .e, n := 29, defs := [] } (stH R)
noncomputable def tNi (w : Bool) (n : Nat) (R O : AO) : Tr (Exit × AFr × ASt) := (TM EN noSum [] fl0 60).ex fl0 none (seqL (seqL (dropC 1 c42))) (xFr [(0, sU 0 n), (1, .bool w), (4, .slice none 0 (.known 0)), (5, .slice none 0 (.known 0))] 29) (S42 R O)
noncomputable def tNr (w y : Bool) (V : AV) (n i k : Nat) (a : Int) (R O N : AO) : Tr (Exit × AFr × ASt) := (TM EN noSum [] fl0 60).ex ⟨[9, 15, 17, 23, 25, 27], [], [10, 19], []⟩ none L42 (fr42 w V n i) (S42 R O)
noncomputable def tNz (w : Bool) (V : AV) (n : Nat) (R O : AO) : Tr (Exit × AFr × ASt) := (TM EN noSum [] fl0 60).ex fl0 none (dropC 2 c42) (fr42 w V n n) (S42 R O)
noncomputable def vcNa_s0 (R : AO) : ASt := mkSt [(0, R)] 1
theorem vcNa (w : Bool) (n : Nat) (R : AO) (Q : Exit × AFr × ASt → Prop) :
  (Q (.normal, xFr [(0, .slice (some (0, 0)) n (.atl n)), (1, .bool w), (4, .slice none 0 (.known 0)), (5, .slice none 0 (.known 0))] 29, vcNa_s0 R)) =
  (tNa w n R).allY (fun r => Q (canR [0, 1, 4, 5] [0, 1] r)) (.nil) := by kernel_rfl
noncomputable def vcNi_s0 (R : AO) (O : AO) : ASt := mkSt [(0, R), (1, O)] 2
theorem vcNi (w : Bool) (n : Nat) (R : AO) (O : AO) (Q : Exit × AFr × ASt → Prop) :
  (Q (.normal, xFr [(0, .slice (some (0, 0)) n (.atl n)), (1, .bool w), (4, .slice none 0 (.known 0)), (5, .slice none 0 (.known 0)), (6, .int .i64 (.ofNat 0))] 29, vcNi_s0 R O)) =
  (tNi w n R O).allY (fun r => Q (canR [0, 1, 4, 5, 6] [0, 1] r)) (.nil) := by kernel_rfl
noncomputable def vcNr_s0 (R : AO) (O : AO) : ASt := mkSt [(0, R), (1, O)] 2
noncomputable def vcNr_s1 (a : Int) (R : AO) (O : AO) : ASt := mkSt [(0, R), (1, O), (2, .cells [.int .u64 a] true)] 3
noncomputable def vcNr_s2 (a : Int) (R : AO) (N : AO) : ASt := mkSt [(0, R), (1, .dead), (2, .cells [.int .u64 a] true), (3, N)] 4
theorem vcNr (w : Bool) (y : Bool) (V : AV) (n : Nat) (i : Nat) (k : Nat) (a : Int) (R : AO) (O : AO) (N : AO) (Q : Exit × AFr × ASt → Prop) :
  (aBuiltinM EN .len [27] [.slice (some (0, 0)) n (.atl n)] (vcNr_s0 R O) = some (.int .i64 (.ofNat n), vcNr_s0 R O) ∧ ifB (ltF (.ofNat i) (.ofNat n)) (still (vcNr_s0 R O) (aIndexAddr EN 27 (.slice (some (0, 0)) n (.atl n)) (.int .i64 (.ofNat i))) = some (.ptr (some (0, i * 4)), vcNr_s0 R O) ∧ aLoad EN 4 (.ptr (some (0, i * 4 + 3))) (vcNr_s0 R O) = some (.bool y, vcNr_s0 R O) ∧ ifB (boolEq y w) (still (vcNr_s0 R O) (aIndexAddr EN 27 (.slice (some (0, 0)) n (.atl n)) (.int .i64 (.ofNat i))) = some (.ptr (some (0, i * 4)), vcNr_s0 R O) ∧ aLoad EN 30 (.ptr (some (0, i * 4 + 0))) (vcNr_s0 R O) = some (.int .u64 a, vcNr_s0 R O) ∧ aBuiltinM EN .append [42, 42] [V, .slice (some (2, 0)) 1 (.known 1)] (vcNr_s1 a R O) = some (.slice (some (3, 0)) (k + 1) (.rest 1), vcNr_s2 a R N) ∧ Q (.normal, xFr [(0, .slice (some (0, 0)) n (.atl n)), (1, .bool w), (4, .slice none 0 (.known 0)), (5, .slice (some (3, 0)) (k + 1) (.rest 1)), (6, .int .i64 (wrapF .i64 (.ofNat i + .ofNat 1)))] 29, vcNr_s2 a R N)) (Q (.normal, xFr [(0, .slice (some (0, 0)) n (.atl n)), (1, .bool w), (4, .slice none 0 (.known 0)), (5, V), (6, .int .i64 (wrapF .i64 (.ofNat i + .ofNat 1)))] 29, vcNr_s0 R O))) (Q (.exit 0, xFr [(0, .slice (some (0, 0)) n (.atl n)), (1, .bool w), (4, .slice none 0 (.known 0)), (5, V), (6, .int .i64 (.ofNat i))] 29, vcNr_s0 R O))) =
  (tNr w y V n i k a R O N).allY (fun r => Q (canR [0, 1, 4, 5, 6] [0, 1, 2, 3] r)) (.v (.int .i64 (.ofNat n), vcNr_s0 R O) (.b (.v (.ptr (some (0, i * 4)), vcNr_s0 R O) (.v (.bool y, vcNr_s0 R O) (.b (.v (.ptr (some (0, i * 4)), vcNr_s0 R O) (.v (.int .u64 a, vcNr_s0 R O) (.v (.slice (some (3, 0)) (k + 1) (.rest 1), vcNr_s2 a R N) .nil))) .nil))) .nil)) := by kernel_rfl
end Go.Proofs.Ytelehjeifhelnaa.ovp
end

section
open Go Go.Ax Go.Proofs
namespace Go.Proofs.Ytelehjeifhelnaa.ovp
set_option linter.unusedVariables false
theorem ENok : Env.Ok Try.prog EN := envEx_ok (xs := []) ⟨⟨Try.func42, Try.call42⟩, trivial⟩ trivial (by kernel_rfl)
theorem nl27 : sliceT EN 27 = some 4 := by kernel_rfl
theorem nc4 : cellT EN 4 = true := by kernel_rfl
theorem nc30 : cellT EN 30 = true := by kernel_rfl
theorem np42 : appT EN 42 42 = some (1, 8) := by kernel_rfl
def nilA : AV := .slice none 0 (.known 0)
def Vn (c : List Int) : AV := bif c.isEmpty then nilA else .slice (some (1, 0)) c.length (.rest 1)
def Bn (c : List Int) : AO := bif c.isEmpty then .dead else .cells (c.map cu) true
noncomputable def stN (l : List RQ) (c : List Int) : ASt := S42 (rowT l) (Bn c)
def stepN (w : Bool) (c : List Int) (r : RQ) : List Int := bif boolEq r.way w then c ++ [r.num] else c
def numV (w : Bool) (l : List RQ) : List Int := l.foldl (stepN w) []
theorem cu_refs {c : List Int} : ∀ v, v ∈ c.map cu → refsV 0 v := fun v hv => by
  obtain ⟨z, _, rfl⟩ := List.mem_map.1 hv
  simp [cu, refsV]
theorem Bn_came (c : List Int) : Came (Bn c) := by
  cases c with
  | nil => exact .inl rfl
  | cons y c => exact .inr ⟨_, _, rfl, cu_refs⟩
section
variable {l : List RQ} {c : List Int} {w : Bool} {i n : Nat} {r : RQ} {S : ASt}
theorem nlen : aBuiltinM EN .len [27] [.slice (some (0, 0)) n (.atl n)] S = some (nI n, S) := by kernel_rfl
theorem nidx (hi : i < n) : still S (aIndexAddr EN 27 (.slice (some (0, 0)) n (.atl n)) (.int .i64 (.ofNat i))) = some (.ptr (some (0, i * 4)), S) := by
  have := idx_at (E := EN) (t := 27) (i := 0) (o := 0) (n := n) (c := .atl n) (kd := .i64) nl27 hi
  rw [Nat.zero_add] at this
  exact still_of this
theorem nload3 (hS : S.h.get 0 = some (rowT l)) (hr : l[i]? = some r) : aLoad EN 4 (.ptr (some (0, i * 4 + 3))) S = some (.bool r.way, S) := load_at nc4 hS (fm_get enc4_len hr rfl)
theorem nload0 (hS : S.h.get 0 = some (rowT l)) (hr : l[i]? = some r) : aLoad EN 30 (.ptr (some (0, i * 4 + 0))) S = some (.int .u64 r.num, S) := load_at nc30 hS (fm_get enc4_len hr rfl)
theorem heldN {k nx d : Nat} {V V' : AV} {ls : List (Nat × AO)} {W : AO} (hd : preB 1 0 [0, d] = true) (hnd : noDup [0, d] = true) (h0 : (mkSt ls nx).h.get 0 = some (rowT l)) (h1 : (mkSt ls nx).h.get d = some W) (hW : Came W)
    (hf : frE [0, d] (fr42 w V l.length k) [0, 1, 4, 5, 6] = some [(0, sU 0 l.length), (1, .bool w), (4, .slice none 0 (.known 0)), (5, V'), (6, nI k)]) :
    Wk 1 (fr42 w V l.length k) (mkSt ls nx) (fr42 w V' l.length k) (S42 (rowT l) W) := by
  have hs : StP [0, d] (mkSt ls nx) [(0, rowT l), (1, W)] := .came (rowT_came l) rfl h0 (.came hW rfl h1 .nil)
  exact Wk.heldX (kb := 1) [0, d] hd hnd [0, 1, 4, 5, 6] hf hs
def QN (w : Bool) (l : List RQ) (c : List Int) (i : Nat) (q : Exit × AFr × ASt) : Prop := (∃ r, l[i]? = some r ∧ Stops 1 .normal (fr42 w (Vn (stepN w c r)) l.length (i + 1)) (stN l (stepN w c r)) q) ∨ (i = l.length ∧ Stops 1 (.exit 0) (fr42 w (Vn c) l.length i) (stN l c) q)
theorem roundN (hl : l.length < 1099511627776) (hc : c.length < 1099511627776) (hi : i ≤ l.length) : Trip Try.prog 1 none L42 (fr42 w (Vn c) l.length i) (stN l c) (QN w l c i) := by
  have fin : ∀ {y : Bool} {k : Nat} {a : Int} {N : AO} {ys}, (tNr w y (Vn c) l.length i k a (rowT l) (Bn c) N).allY (fun r => QN w l c i (canR [0, 1, 4, 5, 6] [0, 1, 2, 3] r)) ys → Trip Try.prog 1 none L42 (fr42 w (Vn c) l.length i) (stN l c) (QN w l c i) := fun h =>
    (Trip.runY ENok noSum_ok h).mono fun q hq => hq.imp (fun ⟨r, h1, h2⟩ => ⟨r, h1, h2.can⟩) (fun h => ⟨h.1, h.2.can⟩)
  by_cases e : i < l.length
  · obtain ⟨r, hr⟩ : ∃ r, l[i]? = some r := ⟨_, List.getElem?_eq_getElem e⟩
    have e1 : wrapF .i64 (Int.ofNat i + Int.ofNat 1) = .ofNat (i + 1) := wI e (by omega)
    refine fin (y := r.way) (k := c.length) (a := r.num) (N := .cells (c.map cu ++ [cu r.num]) true) (Eq.mp (vcNr w r.way (Vn c) l.length i c.length r.num (rowT l) (Bn c) (.cells (c.map cu ++ [cu r.num]) true) (QN w l c i)) ⟨nlen, ifB_mk (fun _ => ⟨nidx e, nload3 (by kernel_rfl) hr, ifB_mk (fun h => ⟨nidx e, nload0 (by kernel_rfl) hr, ?_, .inl ⟨r, hr, rfl, ?_⟩⟩) (fun h => .inl ⟨r, hr, rfl, ?_⟩)⟩) fun h => nlt' e h⟩)
    · cases c with
      | nil => exact (append_nil_at np42 (n := 1) (new := [cu r.num]) (by kernel_rfl) (first_at (cs := [cu r.num]) (rw := true) (by kernel_rfl) (by kernel_rfl)) (by decide) (by decide) (by decide)).trans (by kernel_rfl)
      | cons y c => exact (append_grow_at (l := (y :: c).length) (i := 1) (cs := (y :: c).map cu) np42 (n := 1) (new := [cu r.num]) (by kernel_rfl) (first_at (cs := [cu r.num]) (rw := true) (by kernel_rfl) (by kernel_rfl)) (by kernel_rfl) (by simp) (by decide) (by decide) (by omega) (by omega)).trans (by kernel_rfl)
    · have es : stepN w c r = c ++ [r.num] := by unfold stepN; rw [h]; rfl
      have e2 : Vn (c ++ [r.num]) = .slice (some (1, 0)) (c.length + 1) (.rest 1) := by cases c <;> simp [Vn]
      have e3 : stN l (c ++ [r.num]) = S42 (rowT l) (.cells (c.map cu ++ [cu r.num]) true) := by cases c <;> simp [stN, Bn]
      rw [e1, es, e2, e3]
      exact heldN (d := 3) (by kernel_rfl) (by kernel_rfl) (by kernel_rfl) (by kernel_rfl) (.inr ⟨_, _, rfl, fun v hv => by
        rw [← List.map_singleton, ← List.map_append] at hv; exact cu_refs v hv⟩) (by kernel_rfl)
    · have es : stepN w c r = c := by unfold stepN; rw [h]; rfl
      rw [e1, es]
      exact Wk.refl _ _ _
  · have ek : i = l.length := by omega
    refine fin (y := false) (k := 0) (a := 0) (N := .dead) (Eq.mp (vcNr w false (Vn c) l.length i 0 0 (rowT l) (Bn c) .dead (QN w l c i)) ⟨nlen, ifB_mk (fun h => ?_) fun _ => .inr ⟨ek, rfl, Wk.refl _ _ _⟩⟩)
    rw [ltF_nn] at h
    exact absurd (of_decide_eq_true h) e
end
end Go.Proofs.Ytelehjeifhelnaa.ovp
end

section
open Go Go.Ax Go.Proofs
namespace Go.Proofs.Ytelehjeifhelnaa.ovp
set_option linter.unusedVariables false
section
variable {l : List RQ} {w : Bool}
theorem numV_succ {k : Nat} {r : RQ} (h : l[k]? = some r) : numV w (l.take (k + 1)) = stepN w (numV w (l.take k)) r := by
  unfold numV
  rw [List.take_add_one, h, List.foldl_append]; rfl
theorem stepN_len {c : List Int} {r : RQ} : (stepN w c r).length ≤ c.length + 1 := by
  unfold stepN
  cases boolEq r.way w with
  | true => show (c ++ [r.num]).length ≤ _; rw [List.length_append]; exact Nat.le_refl _
  | false => show c.length ≤ _; omega
theorem loopN (hl : l.length < 549755813888) : Trip Try.prog 1 none (.block 0 (.loop L42)) (fr42 w nilA l.length 0) (stN l []) (Stops 1 .normal (fr42 w (Vn (numV w l)) l.length l.length) (stN l (numV w l))) := by
  refine Trip.block (Trip.loop (fun μ fr st => ∃ k c, k ≤ l.length ∧ μ = l.length - k ∧ numV w (l.take k) = c ∧ c.length ≤ k ∧ fr = fr42 w (Vn c) l.length k ∧ st = stN l c) ?_ l.length ⟨0, [], by omega, by omega, rfl, Nat.le_refl _, rfl, rfl⟩)
  rintro μ fr st ⟨k, c, hk, rfl, hI, hc, rfl, rfl⟩
  refine (roundN (by omega) (by omega) hk).mono ?_
  rintro ⟨e, fr', st'⟩ (⟨r, h2, h4, h5⟩ | ⟨h2, h4, h5⟩)
  · simp only at h4
    subst h4
    have hk2 : k < l.length := (List.getElem?_eq_some_iff.1 h2).1
    have := stepN_len (w := w) (c := c) (r := r)
    exact ⟨l.length - (k + 1), _, _, by omega, h5, k + 1, stepN w c r, by omega, rfl, by rw [numV_succ h2, hI], by omega, rfl, rfl⟩
  · simp only at h4
    subst h4
    subst h2
    rw [List.take_length] at hI
    subst hI
    exact ⟨fun _ => ⟨rfl, h5⟩, fun h => absurd rfl h⟩
theorem shape42 : dropC 1 c42 = .seq (.seq (seqL (seqL (dropC 1 c42))) (.block 0 (.loop L42))) (dropC 2 c42) := by kernel_rfl
theorem vcNz (w : Bool) (V : AV) (n : Nat) (S : ASt) (R : AV × ASt → Prop) : ((Exit.ret = .normal ∨ Exit.ret = .ret) ∧ ∃ v, some (V, S) = some v ∧ R v) =
    ((TM EN noSum [] fl0 60).ex fl0 none (dropC 2 c42) (fr42 w V n n) S).allY (fun r => (r.1 = .normal ∨ r.1 = .ret) ∧ ∃ v, leaveA EN Try.f42 r.2.1 r.2.2 = some v ∧ R v) .nil := by kernel_rfl
theorem bodyN (hl : l.length < 549755813888) : Trip Try.prog 1 none c42 { m := putArgs [sU 0 l.length, .bool w] 0 .e, n := 29, defs := [] } (stH (rowT l)) fun r => (r.1 = .normal ∨ r.1 = .ret) ∧ ∃ v, leaveA EN Try.f42 r.2.1 r.2.2 = some v ∧ v = (Vn (numV w l), stN l (numV w l)) := by
  refine Trip.preY ENok noSum_ok (k := 1) (kf := [0, 1, 4, 5]) (ko := [0, 1]) (by kernel_rfl) (Q1 := fun q => q = (.normal, xFr [(0, sU 0 l.length), (1, .bool w), (4, .slice none 0 (.known 0)), (5, .slice none 0 (.known 0))] 29, stH (rowT l))) (Eq.mp (vcNa w l.length (rowT l) (fun q => q = (.normal, xFr [(0, sU 0 l.length), (1, .bool w), (4, .slice none 0 (.known 0)), (5, .slice none 0 (.known 0))] 29, stH (rowT l)))) rfl) ?_ (fun q h1 h2 => absurd (congrArg Prod.fst h2) h1)
  rintro F' S' h
  cases h
  have hs : StP [0, 9] (stH (rowT l)) [(0, rowT l), (1, .dead)] := .came (rowT_came l) rfl (by kernel_rfl) (.dead (j := 1) (by decide) .nil)
  have hf : frE [0, 9] (xFr [(0, sU 0 l.length), (1, .bool w), (4, .slice none 0 (.known 0)), (5, .slice none 0 (.known 0))] 29) [0, 1, 4, 5] = some [(0, sU 0 l.length), (1, .bool w), (4, .slice none 0 (.known 0)), (5, .slice none 0 (.known 0))] := by kernel_rfl
  refine Trip.less (Wk.heldX (kb := 1) [0, 9] (by kernel_rfl) (by kernel_rfl) [0, 1, 4, 5] hf hs) ?_
  rw [shape42]
  refine Trip.seq (R := Stops 1 .normal (fr42 w (Vn (numV w l)) l.length l.length) (stN l (numV w l))) (Trip.seq (R := Stops 1 .normal (fr42 w nilA l.length 0) (stN l []))
    ((Trip.runY ENok noSum_ok (Eq.mp (vcNi w l.length (rowT l) .dead (Stops 1 .normal (fr42 w nilA l.length 0) (stN l []))) ⟨rfl, Wk.refl _ _ _⟩)).mono fun q hq => Stops.can hq) (fun fr' st' hq => Trip.less hq.2 (loopN hl)) (fun e fr' st' hne hq => absurd hq.1 hne)) (fun fr' st' hq => ?_) (fun e fr' st' hne hq => absurd hq.1 hne)
  exact Trip.less hq.2 (Trip.runY ENok noSum_ok (Eq.mp (vcNz w (Vn (numV w l)) l.length (stN l (numV w l)) (fun v => v = (Vn (numV w l), stN l (numV w l)))) ⟨.inr rfl, _, rfl, rfl⟩))
theorem numbersRun (hl : l.length < 549755813888) (B : Prot) (w0 : World) (ι : Ren) (W : World) (args' : Array Value) (hB : ∀ i, ¬ B.rs i) (hsr : SR B w0 ι (stH (rowT l)) W) (hv : VRs ι [sU 0 l.length, .bool w] args') :
    (callFunc 42 args').run Try.prog W = .ok (.enter 42 args') W ∧ CallsIn Fence.wide 0 Try.prog 42 args' W fun e w' => ∃ v, v = (Vn (numV w l), stN l (numV w l)) ∧ Post B w0 ι v e w' :=
  Trip.call ENok (fn := Try.f42) (by kernel_rfl) (by kernel_rfl : Try.f42.body = some c42) (by kernel_rfl) (bodyN hl) B hB w0 ι W args' hsr hv
end
end Go.Proofs.Ytelehjeifhelnaa.ovp
end

section
open Go Go.Ax Go.Proofs
namespace Go.Ax
set_option linter.unusedVariables false
theorem gS_srcR {l : RowsL} {n : Nat} : gS (srcR l) n = fun j => n + j := by
  funext j
  unfold gS
  split
  · rename_i i o hs
    obtain ⟨q, _, _, _, h⟩ := srcR_some hs
    cases h
  · rfl
theorem Call1.frameR {P : Program} {f : Nat} {args args1 : List AV} {S S1 : ASt} {Q1 : AV × ASt → Prop}
    (hrun : ∀ B w0 ι w args', (∀ i, ¬ B.rs i) → SR B w0 ι S1 w → VRs ι args1 args' → (callFunc f args').run P w = .ok (.enter f args') w ∧ CallsIn Fence.wide 0 P f args' w fun e w' => ∃ v, Q1 v ∧ Post B w0 ι v e w')
    {l : RowsL} (hn : S1.next = l.length) (ho : ∀ (j : Nat) x, S1.h.get j = some x → ∃ q : Nat × Nat × List AV, l[j]? = some q ∧ x = .cells q.2.2 false)
    (hl : ∀ (j : Nat) (q : Nat × Nat × List AV), l[j]? = some q → q.2.2 ≠ [] ∧ (∀ c, c ∈ q.2.2 → refsV 0 c) ∧ ∃ cs rw, S.h.get q.1 = some (.cells cs rw) ∧ takeL cs q.2.1 q.2.2.length = some q.2.2)
    (ha : ∀ ι args', VRs ι args args' → VRs (renS (srcR l) ι) args1 args')
    {outs : List (Nat × AO)} {n : Nat} {val : AV} (hback : ∀ q, Q1 q → BackV (fun j => S.next + j) q.1 val ∧ S.next + q.2.next ≤ n ∧ S.next + l.length ≤ n ∧
      ∀ p, p ∈ outs → l.length ≤ p.1 ∧ S.next + p.1 < n ∧ (p.2 = .dead ∨ p.2.own = true ∧ ∃ a, q.2.h.get p.1 = some a ∧ BackO (fun j => S.next + j) a p.2)) :
    Call1 P f args S (val, outS (fun j => S.next + j) outs S n) := by
  rw [← gS_srcR (l := l)]
  have hlen : (srcR l).length = l.length := by unfold srcR; rw [List.length_map]
  refine Call1.frame (S1 := S1) (args1 := args1) hrun (src := srcR l) ⟨hn.trans hlen.symm, fun j i o w h => ?_, fun j x hj => ?_, fun j x hj hd => ?_, fun j j' x i o w o' w' hj ho' => ?_⟩ ha fun q hq => ?_
  · obtain ⟨q, h1, rfl, rfl, rfl⟩ := srcR_some h
    obtain ⟨_, _, cs, rw, h4, _⟩ := hl j q h1
    exact ⟨fun h => (by cases h), _, h4, by simp⟩
  · obtain ⟨q, h1, _⟩ := ho j x hj
    rw [hlen]; exact (List.getElem?_eq_some_iff.1 h1).1
  · obtain ⟨q, h1, rfl⟩ := ho j x hj
    obtain ⟨h2, h3, cs, rw, h4, h5⟩ := hl j q h1
    exact ⟨q.1, q.2.1, false, _, srcR_at h1, h4, by simp, fun h => (by cases h), fun ι L ob hx => row_sub hx h2 h5 h3⟩
  · obtain ⟨q, h1, rfl⟩ := ho j x hj
    cases ho'
  · obtain ⟨b1, b2, b3, b4⟩ := hback q hq
    refine ⟨gS_srcR (l := l) ▸ b1, ⟨b2, by rw [hlen]; exact b3⟩, fun p hp => ?_, fun j x hj ho' => ?_⟩
    · obtain ⟨c1, c2, c3⟩ := b4 p hp
      rw [gS_srcR]
      exact ⟨c2, fun h => absurd h (by rw [hlen]; omega), c3⟩
    · obtain ⟨q', h1, rfl⟩ := ho j x hj
      cases ho'
end Go.Ax
namespace Go.Proofs.Ytelehjeifhelnaa.ovp
section
variable {l : List RQ} {w : Bool} {S : ASt} {r : Nat} {c : Cap}
def Vr (k : Nat) (x : List Int) : AV := bif x.isEmpty then nilA else .slice (some (k, 0)) x.length (.rest 1)
theorem mapV_Vn {g : Nat → Nat} {x : List Int} : mapV g (Vn x) = Vr (g 1) x := by
  cases x <;> rfl
theorem num_any (hl : l.length < 549755813888) (h0 : l ≠ []) (hr : RowIn S r l) : Call1 Try.prog 42 [.slice (some (r, 0)) l.length c, .bool w] S (Vr (S.next + 1) (numV w l), outS (fun j => S.next + j) [(1, Bn (numV w l))] S (S.next + 2)) := by
  obtain ⟨cs, rw, g1, g2⟩ := hr
  refine Call1.frameR (args := [.slice (some (r, 0)) l.length c, .bool w]) (numbersRun (w := w) hl) (l := [(r, 0, l.flatMap enc4)]) rfl (fun j x hj => ?_) (fun j q hq => ?_) (fun ι args' hv => ⟨hv.size, fun k y y' hy hy' => ?_⟩) (fun q hq => ?_)
  · obtain ⟨rfl, rfl⟩ := get1 hj
    exact ⟨_, rfl, rfl⟩
  · match j, hq with
    | 0, hq => simp at hq; subst hq; exact ⟨fm_ne h0, enc4_refs, cs, rw, g1, g2⟩
    | j + 1, hq => simp at hq
  · match k, hy with
    | 0, hy => simp at hy; subst hy; exact VR.rowR (l := [(r, 0, l.flatMap enc4)]) rfl rfl rfl (hv.at_ 0 _ y' rfl hy')
    | 1, hy => simp at hy; subst hy; exact (hv.at_ 1 _ y' rfl hy').noRef (by simp [refsV])
    | k + 2, hy => simp at hy
  · subst hq
    refine ⟨BackV.eq mapV_Vn, Nat.le_refl _, by simp, fun p hp => ?_⟩
    simp only [List.mem_cons, List.not_mem_nil, or_false] at hp
    subst hp
    refine ⟨by simp, by show S.next + 1 < S.next + 2; omega, ?_⟩
    cases e : numV w l with
    | nil => exact .inl rfl
    | cons y ys => exact .inr ⟨rfl, .cells ((y :: ys).map cu) true, by kernel_rfl, BackO.row cu_refs⟩
end
end Go.Proofs.Ytelehjeifhelnaa.ovp
end
