/-
  OWN WORK, A PART: an abstract machine for the program's text that the kernel can run, and the proof that it is sound: what it answers is what the program answers; contracts of functions by it. No condition.
-/
import Derived.Test.YtlnohbilfogheaaRd
import Derived.KernelRfl
import Derived.Test.YtlnohbilfogheaaQsR
section
open Go Go.Ax Go.Proofs.Ytlnohbilfogheaa
namespace Go.Proofs.Ytlnohbilfogheaa.rrd
open Go.Proofs.Ytlnohbilfogheaa.rdr
set_option linter.unusedVariables false
noncomputable def fnsR : List (Nat × Func) := [(94, Try.f94), (80, Try.f80), (66, Try.f66), (67, Try.f67), (68, Try.f68)]
noncomputable def ER : Env := envEx Try.prog [0, 3, 4, 5, 25, 28, 113, 115] fnsR []
noncomputable def slR (o n c : Nat) : AV := .slice (some (0, o)) n (.atl c)
noncomputable def rr (o n c : Nat) (bad : Bool) : AO := .cells [slR o n c, .bool bad] true
noncomputable def stQ (R : AO) (o n c : Nat) (bad : Bool) : ASt := mkSt [(0, R), (1, rr o n c bad)] 2
noncomputable def flsU : List (Nat × Fl) := [(94, ⟨[31, 38], [], [21], []⟩)]
noncomputable def tUb (o n c s : Nat) (R : AO) : Tr (AV × ASt) := (TM ER noSum [(94, fl0)] fl0 60).call 94 [.ptr (some (1, 0)), nI s] (stQ R o n c true)
noncomputable def tU (o n c s : Nat) (R : AO) : Tr (AV × ASt) := (TM ER noSum flsU fl0 60).call 94 [.ptr (some (1, 0)), nI s] (stQ R o n c false)
noncomputable def flsW : List (Nat × Fl) := [(94, ⟨[31, 38], [], [21], []⟩), (66, ⟨[27, 28], [16], [], []⟩)]
noncomputable def tWb1 (o n c : Nat) (R : AO) : Tr (AV × ASt) := (TM ER noSum [(94, fl0), (66, ⟨[], [16], [], []⟩)] fl0 60).call 66 [.ptr (some (1, 0)), nI 1] (stQ R o n c true)
noncomputable def tWb2 (o n c : Nat) (R : AO) : Tr (AV × ASt) := (TM ER noSum [(94, fl0), (66, ⟨[], [16], [], []⟩)] fl0 60).call 66 [.ptr (some (1, 0)), nI 2] (stQ R o n c true)
noncomputable def tWb8 (o n c : Nat) (R : AO) : Tr (AV × ASt) := (TM ER noSum [(94, fl0), (66, ⟨[], [16], [], []⟩)] fl0 60).call 66 [.ptr (some (1, 0)), nI 8] (stQ R o n c true)
noncomputable def tW1 (o n c : Nat) (b0 : Int) (R : AO) : Tr (AV × ASt) := (TM ER noSum flsW fl0 60).call 66 [.ptr (some (1, 0)), nI 1] (stQ R o n c false)
noncomputable def tW2 (o n c : Nat) (b0 b1 : Int) (R : AO) : Tr (AV × ASt) := (TM ER noSum flsW fl0 60).call 66 [.ptr (some (1, 0)), nI 2] (stQ R o n c false)
noncomputable def tW8 (o n c : Nat) (b0 b1 b2 b3 b4 b5 b6 b7 : Int) (R : AO) : Tr (AV × ASt) := (TM ER noSum flsW fl0 60).call 66 [.ptr (some (1, 0)), nI 8] (stQ R o n c false)
noncomputable def tE0 (o n c : Nat) (R : AO) : Tr (AV × ASt) := (TM ER noSum [(68, fl0)] fl0 60).call 68 [.ptr (some (1, 0))] (stQ R o n c false)
noncomputable def tE1 (o n c : Nat) (R : AO) : Tr (AV × ASt) := (TM ER noSum [(68, fl0)] fl0 60).call 68 [.ptr (some (1, 0))] (stQ R o n c true)
noncomputable def vcUb_s0 (o n c : Nat) (R : AO) : ASt := mkSt [(0, R), (1, .cells [.slice (some (0, o)) n (.atl c), .bool true] true)] 2
theorem vcUb (o n c s : Nat) (R : AO) (Q : AV × ASt → Prop) :
  (Q (.slice none 0 (.known 0), vcUb_s0 o n c R)) =
  (tUb o n c s R).allY (fun r => Q (r.1, canS [0, 1] r.2)) (.nil) := by kernel_rfl
noncomputable def vcU_s0 (o n c : Nat) (R : AO) : ASt := mkSt [(0, R), (1, .cells [.slice (some (0, o)) n (.atl c), .bool true] true)] 2
noncomputable def vcU_s1 (o n c : Nat) (R : AO) : ASt := mkSt [(0, R), (1, .cells [.slice (some (0, o)) n (.atl c), .bool false] true)] 2
noncomputable def vcU_s2 (o n c s : Nat) (R : AO) : ASt := mkSt [(0, R), (1, .cells [.slice (some (0, o + s)) (n - s) (.atl (c - s)), .bool false] true)] 2
theorem vcU (o n c s : Nat) (R : AO) (Q : AV × ASt → Prop) :
  (ifB (ltF (.ofNat n) (.ofNat s)) (Q (.slice none 0 (.known 0), vcU_s0 o n c R)) (still (vcU_s1 o n c R) (aSlice ER 25 (.slice (some (0, o)) n (.atl c)) none (some (.int .i64 (.ofNat s))) none (vcU_s1 o n c R)) = some (.slice (some (0, o)) s (.atl c), vcU_s1 o n c R) ∧ still (vcU_s1 o n c R) (aSlice ER 25 (.slice (some (0, o)) n (.atl c)) (some (.int .i64 (.ofNat s))) none none (vcU_s1 o n c R)) = some (.slice (some (0, o + s)) (n - s) (.atl (c - s)), vcU_s1 o n c R) ∧ Q (.slice (some (0, o)) s (.atl c), vcU_s2 o n c s R))) =
  (tU o n c s R).allY (fun r => Q (r.1, canS [0, 1] r.2)) (.b .nil (.v (.slice (some (0, o)) s (.atl c), vcU_s1 o n c R) (.v (.slice (some (0, o + s)) (n - s) (.atl (c - s)), vcU_s1 o n c R) .nil))) := by kernel_rfl
noncomputable def vcWb1_s0 (o n c : Nat) (R : AO) : ASt := mkSt [(0, R), (1, .cells [.slice (some (0, o)) n (.atl c), .bool true] true)] 2
theorem vcWb1 (o n c : Nat) (R : AO) (Q : AV × ASt → Prop) :
  (Q (.int .u64 (.ofNat 0), vcWb1_s0 o n c R)) =
  (tWb1 o n c R).allY (fun r => Q (r.1, canS [0, 1] r.2)) (.nil) := by kernel_rfl
noncomputable def vcWb2_s0 (o n c : Nat) (R : AO) : ASt := mkSt [(0, R), (1, .cells [.slice (some (0, o)) n (.atl c), .bool true] true)] 2
theorem vcWb2 (o n c : Nat) (R : AO) (Q : AV × ASt → Prop) :
  (Q (.int .u64 (.ofNat 0), vcWb2_s0 o n c R)) =
  (tWb2 o n c R).allY (fun r => Q (r.1, canS [0, 1] r.2)) (.nil) := by kernel_rfl
noncomputable def vcWb8_s0 (o n c : Nat) (R : AO) : ASt := mkSt [(0, R), (1, .cells [.slice (some (0, o)) n (.atl c), .bool true] true)] 2
theorem vcWb8 (o n c : Nat) (R : AO) (Q : AV × ASt → Prop) :
  (Q (.int .u64 (.ofNat 0), vcWb8_s0 o n c R)) =
  (tWb8 o n c R).allY (fun r => Q (r.1, canS [0, 1] r.2)) (.nil) := by kernel_rfl
noncomputable def vcW1_s0 (o n c : Nat) (R : AO) : ASt := mkSt [(0, R), (1, .cells [.slice (some (0, o)) n (.atl c), .bool true] true)] 2
noncomputable def vcW1_s1 (o n c : Nat) (R : AO) : ASt := mkSt [(0, R), (1, .cells [.slice (some (0, o)) n (.atl c), .bool false] true)] 2
noncomputable def vcW1_s2 (o n c : Nat) (R : AO) : ASt := mkSt [(0, R), (1, .cells [.slice (some (0, o + 1)) (n - 1) (.atl (c - 1)), .bool false] true)] 2
theorem vcW1 (o n c : Nat) (b0 : Int) (R : AO) (Q : AV × ASt → Prop) :
  (ifB (ltF (.ofNat n) (.ofNat 1)) (Q (.int .u64 (.ofNat 0), vcW1_s0 o n c R)) (still (vcW1_s1 o n c R) (aSlice ER 25 (.slice (some (0, o)) n (.atl c)) none (some (.int .i64 (.ofNat 1))) none (vcW1_s1 o n c R)) = some (.slice (some (0, o)) 1 (.atl c), vcW1_s1 o n c R) ∧ still (vcW1_s1 o n c R) (aSlice ER 25 (.slice (some (0, o)) n (.atl c)) (some (.int .i64 (.ofNat 1))) none none (vcW1_s1 o n c R)) = some (.slice (some (0, o + 1)) (n - 1) (.atl (c - 1)), vcW1_s1 o n c R) ∧ still (vcW1_s2 o n c R) (aIndexAddr ER 25 (.slice (some (0, o)) 1 (.atl c)) (.int .i64 (.ofNat 0))) = some (.ptr (some (0, o + 0)), vcW1_s2 o n c R) ∧ aLoad ER 5 (.ptr (some (0, o + 0))) (vcW1_s2 o n c R) = some (.int .u8 b0, vcW1_s2 o n c R) ∧ Q (.int .u64 (wrapF .u64 (.ofNat 0 + wrapF .u64 b0)), vcW1_s2 o n c R))) =
  (tW1 o n c b0 R).allY (fun r => Q (r.1, canS [0, 1] r.2)) (.b .nil (.v (.slice (some (0, o)) 1 (.atl c), vcW1_s1 o n c R) (.v (.slice (some (0, o + 1)) (n - 1) (.atl (c - 1)), vcW1_s1 o n c R) (.v (.ptr (some (0, o + 0)), vcW1_s2 o n c R) (.v (.int .u8 b0, vcW1_s2 o n c R) .nil))))) := by kernel_rfl
noncomputable def vcW2_s0 (o n c : Nat) (R : AO) : ASt := mkSt [(0, R), (1, .cells [.slice (some (0, o)) n (.atl c), .bool true] true)] 2
noncomputable def vcW2_s1 (o n c : Nat) (R : AO) : ASt := mkSt [(0, R), (1, .cells [.slice (some (0, o)) n (.atl c), .bool false] true)] 2
noncomputable def vcW2_s2 (o n c : Nat) (R : AO) : ASt := mkSt [(0, R), (1, .cells [.slice (some (0, o + 2)) (n - 2) (.atl (c - 2)), .bool false] true)] 2
theorem vcW2 (o n c : Nat) (b0 b1 : Int) (R : AO) (Q : AV × ASt → Prop) :
  (ifB (ltF (.ofNat n) (.ofNat 2)) (Q (.int .u64 (.ofNat 0), vcW2_s0 o n c R)) (still (vcW2_s1 o n c R) (aSlice ER 25 (.slice (some (0, o)) n (.atl c)) none (some (.int .i64 (.ofNat 2))) none (vcW2_s1 o n c R)) = some (.slice (some (0, o)) 2 (.atl c), vcW2_s1 o n c R) ∧ still (vcW2_s1 o n c R) (aSlice ER 25 (.slice (some (0, o)) n (.atl c)) (some (.int .i64 (.ofNat 2))) none none (vcW2_s1 o n c R)) = some (.slice (some (0, o + 2)) (n - 2) (.atl (c - 2)), vcW2_s1 o n c R) ∧ still (vcW2_s2 o n c R) (aIndexAddr ER 25 (.slice (some (0, o)) 2 (.atl c)) (.int .i64 (.ofNat 0))) = some (.ptr (some (0, o + 0)), vcW2_s2 o n c R) ∧ aLoad ER 5 (.ptr (some (0, o + 0))) (vcW2_s2 o n c R) = some (.int .u8 b0, vcW2_s2 o n c R) ∧ still (vcW2_s2 o n c R) (aIndexAddr ER 25 (.slice (some (0, o)) 2 (.atl c)) (.int .i64 (.ofNat 1))) = some (.ptr (some (0, o + 1)), vcW2_s2 o n c R) ∧ aLoad ER 5 (.ptr (some (0, o + 1))) (vcW2_s2 o n c R) = some (.int .u8 b1, vcW2_s2 o n c R) ∧ Q (.int .u64 (wrapF .u64 (wrapF .u64 (.ofNat 256 * wrapF .u64 (.ofNat 0 + wrapF .u64 b0)) + wrapF .u64 b1)), vcW2_s2 o n c R))) =
  (tW2 o n c b0 b1 R).allY (fun r => Q (r.1, canS [0, 1] r.2)) (.b .nil (.v (.slice (some (0, o)) 2 (.atl c), vcW2_s1 o n c R) (.v (.slice (some (0, o + 2)) (n - 2) (.atl (c - 2)), vcW2_s1 o n c R) (.v (.ptr (some (0, o + 0)), vcW2_s2 o n c R) (.v (.int .u8 b0, vcW2_s2 o n c R) (.v (.ptr (some (0, o + 1)), vcW2_s2 o n c R) (.v (.int .u8 b1, vcW2_s2 o n c R) .nil))))))) := by kernel_rfl
noncomputable def vcW8_s0 (o n c : Nat) (R : AO) : ASt := mkSt [(0, R), (1, .cells [.slice (some (0, o)) n (.atl c), .bool true] true)] 2
noncomputable def vcW8_s1 (o n c : Nat) (R : AO) : ASt := mkSt [(0, R), (1, .cells [.slice (some (0, o)) n (.atl c), .bool false] true)] 2
noncomputable def vcW8_s2 (o n c : Nat) (R : AO) : ASt := mkSt [(0, R), (1, .cells [.slice (some (0, o + 8)) (n - 8) (.atl (c - 8)), .bool false] true)] 2
theorem vcW8 (o n c : Nat) (b0 b1 b2 b3 b4 b5 b6 b7 : Int) (R : AO) (Q : AV × ASt → Prop) :
  (ifB (ltF (.ofNat n) (.ofNat 8)) (Q (.int .u64 (.ofNat 0), vcW8_s0 o n c R)) (still (vcW8_s1 o n c R) (aSlice ER 25 (.slice (some (0, o)) n (.atl c)) none (some (.int .i64 (.ofNat 8))) none (vcW8_s1 o n c R)) = some (.slice (some (0, o)) 8 (.atl c), vcW8_s1 o n c R) ∧ still (vcW8_s1 o n c R) (aSlice ER 25 (.slice (some (0, o)) n (.atl c)) (some (.int .i64 (.ofNat 8))) none none (vcW8_s1 o n c R)) = some (.slice (some (0, o + 8)) (n - 8) (.atl (c - 8)), vcW8_s1 o n c R) ∧ still (vcW8_s2 o n c R) (aIndexAddr ER 25 (.slice (some (0, o)) 8 (.atl c)) (.int .i64 (.ofNat 0))) = some (.ptr (some (0, o + 0)), vcW8_s2 o n c R) ∧ aLoad ER 5 (.ptr (some (0, o + 0))) (vcW8_s2 o n c R) = some (.int .u8 b0, vcW8_s2 o n c R) ∧ still (vcW8_s2 o n c R) (aIndexAddr ER 25 (.slice (some (0, o)) 8 (.atl c)) (.int .i64 (.ofNat 1))) = some (.ptr (some (0, o + 1)), vcW8_s2 o n c R) ∧ aLoad ER 5 (.ptr (some (0, o + 1))) (vcW8_s2 o n c R) = some (.int .u8 b1, vcW8_s2 o n c R) ∧ still (vcW8_s2 o n c R) (aIndexAddr ER 25 (.slice (some (0, o)) 8 (.atl c)) (.int .i64 (.ofNat 2))) = some (.ptr (some (0, o + 2)), vcW8_s2 o n c R) ∧ aLoad ER 5 (.ptr (some (0, o + 2))) (vcW8_s2 o n c R) = some (.int .u8 b2, vcW8_s2 o n c R) ∧ still (vcW8_s2 o n c R) (aIndexAddr ER 25 (.slice (some (0, o)) 8 (.atl c)) (.int .i64 (.ofNat 3))) = some (.ptr (some (0, o + 3)), vcW8_s2 o n c R) ∧ aLoad ER 5 (.ptr (some (0, o + 3))) (vcW8_s2 o n c R) = some (.int .u8 b3, vcW8_s2 o n c R) ∧ still (vcW8_s2 o n c R) (aIndexAddr ER 25 (.slice (some (0, o)) 8 (.atl c)) (.int .i64 (.ofNat 4))) = some (.ptr (some (0, o + 4)), vcW8_s2 o n c R) ∧ aLoad ER 5 (.ptr (some (0, o + 4))) (vcW8_s2 o n c R) = some (.int .u8 b4, vcW8_s2 o n c R) ∧ still (vcW8_s2 o n c R) (aIndexAddr ER 25 (.slice (some (0, o)) 8 (.atl c)) (.int .i64 (.ofNat 5))) = some (.ptr (some (0, o + 5)), vcW8_s2 o n c R) ∧ aLoad ER 5 (.ptr (some (0, o + 5))) (vcW8_s2 o n c R) = some (.int .u8 b5, vcW8_s2 o n c R) ∧ still (vcW8_s2 o n c R) (aIndexAddr ER 25 (.slice (some (0, o)) 8 (.atl c)) (.int .i64 (.ofNat 6))) = some (.ptr (some (0, o + 6)), vcW8_s2 o n c R) ∧ aLoad ER 5 (.ptr (some (0, o + 6))) (vcW8_s2 o n c R) = some (.int .u8 b6, vcW8_s2 o n c R) ∧ still (vcW8_s2 o n c R) (aIndexAddr ER 25 (.slice (some (0, o)) 8 (.atl c)) (.int .i64 (.ofNat 7))) = some (.ptr (some (0, o + 7)), vcW8_s2 o n c R) ∧ aLoad ER 5 (.ptr (some (0, o + 7))) (vcW8_s2 o n c R) = some (.int .u8 b7, vcW8_s2 o n c R) ∧ Q (.int .u64 (wrapF .u64 (wrapF .u64 (.ofNat 256 * wrapF .u64 (wrapF .u64 (.ofNat 256 * wrapF .u64 (wrapF .u64 (.ofNat 256 * wrapF .u64 (wrapF .u64 (.ofNat 256 * wrapF .u64 (wrapF .u64 (.ofNat 256 * wrapF .u64 (wrapF .u64 (.ofNat 256 * wrapF .u64 (wrapF .u64 (.ofNat 256 * wrapF .u64 (.ofNat 0 + wrapF .u64 b0)) + wrapF .u64 b1)) + wrapF .u64 b2)) + wrapF .u64 b3)) + wrapF .u64 b4)) + wrapF .u64 b5)) + wrapF .u64 b6)) + wrapF .u64 b7)), vcW8_s2 o n c R))) =
  (tW8 o n c b0 b1 b2 b3 b4 b5 b6 b7 R).allY (fun r => Q (r.1, canS [0, 1] r.2)) (.b .nil (.v (.slice (some (0, o)) 8 (.atl c), vcW8_s1 o n c R) (.v (.slice (some (0, o + 8)) (n - 8) (.atl (c - 8)), vcW8_s1 o n c R) (.v (.ptr (some (0, o + 0)), vcW8_s2 o n c R) (.v (.int .u8 b0, vcW8_s2 o n c R) (.v (.ptr (some (0, o + 1)), vcW8_s2 o n c R) (.v (.int .u8 b1, vcW8_s2 o n c R) (.v (.ptr (some (0, o + 2)), vcW8_s2 o n c R) (.v (.int .u8 b2, vcW8_s2 o n c R) (.v (.ptr (some (0, o + 3)), vcW8_s2 o n c R) (.v (.int .u8 b3, vcW8_s2 o n c R) (.v (.ptr (some (0, o + 4)), vcW8_s2 o n c R) (.v (.int .u8 b4, vcW8_s2 o n c R) (.v (.ptr (some (0, o + 5)), vcW8_s2 o n c R) (.v (.int .u8 b5, vcW8_s2 o n c R) (.v (.ptr (some (0, o + 6)), vcW8_s2 o n c R) (.v (.int .u8 b6, vcW8_s2 o n c R) (.v (.ptr (some (0, o + 7)), vcW8_s2 o n c R) (.v (.int .u8 b7, vcW8_s2 o n c R) .nil))))))))))))))))))) := by kernel_rfl
noncomputable def vcE0_s0 (o n c : Nat) (R : AO) : ASt := mkSt [(0, R), (1, .cells [.slice (some (0, o)) n (.atl c), .bool false] true)] 2
theorem vcE0 (o n c : Nat) (R : AO) (Q : AV × ASt → Prop) :
  (Q (.bool (eqF (.ofNat n) (.ofNat 0)), vcE0_s0 o n c R)) =
  (tE0 o n c R).allY (fun r => Q (r.1, canS [0, 1] r.2)) (.nil) := by kernel_rfl
noncomputable def vcE1_s0 (o n c : Nat) (R : AO) : ASt := mkSt [(0, R), (1, .cells [.slice (some (0, o)) n (.atl c), .bool true] true)] 2
theorem vcE1 (o n c : Nat) (R : AO) (Q : AV × ASt → Prop) :
  (Q (.bool false, vcE1_s0 o n c R)) =
  (tE1 o n c R).allY (fun r => Q (r.1, canS [0, 1] r.2)) (.nil) := by kernel_rfl
theorem ERok : Env.Ok Try.prog ER := envEx_ok (xs := []) ⟨⟨Try.func94, Try.call94⟩, ⟨Try.func80, Try.call80⟩, ⟨Try.func66, Try.call66⟩, ⟨Try.func67, Try.call67⟩, ⟨Try.func68, Try.call68⟩, trivial⟩ trivial (by kernel_rfl)
theorem blt_f {a b : Nat} (h : b ≤ a) : Nat.blt a b = false := by
  cases hh : Nat.blt a b
  · rfl
  · have := Nat.le_of_ble_eq_true hh; omega
section
variable {l : List Nat} {o s : Nat} {S : ASt} {bad : Bool}
noncomputable def stE (l : List Nat) (o : Nat) (bad : Bool) : ASt := stQ (.cells (l.map cellU) false) o (l.length - 4 - o) (l.length - o) bad
def rO (l : List Nat) (o : Nat) (bad : Bool) (s : Nat) : Nat := bif bad then o else bif Nat.blt (l.length - 4 - o) s then o else o + s
def rB (l : List Nat) (o : Nat) (bad : Bool) (s : Nat) : Bool := bif bad then true else Nat.blt (l.length - 4 - o) s
def numR (l : List Nat) (o : Nat) (bad : Bool) (k : Nat) : Nat := bif rB l o bad k then 0 else beN l o k
noncomputable def cutR (l : List Nat) (o : Nat) (bad : Bool) (s : Nat) : AV := bif rB l o bad s then nilV else slR o s (l.length - o)
section
variable {n c : Nat}
theorem boundsQ (hc : n < c) (hs : s ≤ n) : aBounds n (Nat.max n c) none (some s) none = some (0, s, c) := by
  have e : Nat.max n c = c := Nat.max_eq_right (by omega)
  rw [e]
  unfold aBounds
  simp only [Ax.ble_t (show s ≤ c by omega), cond_true]
theorem cutQ (hc : n < c) (hs : s ≤ n) : still S (aSlice ER 25 (slR o n c) none (some (nI s)) none S) = some (slR o s c, S) := by
  refine still_of ?_
  have e3 : aSlice ER 25 (slR o n c) none (some (nI s)) none S =
    (match aBounds n (Nat.max n c) none (some s) none with
      | some (a, h, m) => (bif Nat.blt a (Nat.max n c) then some (.slice (some (0, o + a * 1)) (h - a) (.atl (Nat.max n c - a))) else bif Nat.beq a 0 then some (.slice (some (0, o)) 0 (.atl 0)) else some .slice0) | none => none) := by kernel_rfl
  rw [e3, boundsQ hc hs]
  have e : Nat.max n c = c := Nat.max_eq_right (by omega)
  simp only [e, blt_t (show 0 < c by omega), cond_true, Nat.zero_mul, Nat.add_zero, Nat.sub_zero]
  rfl
theorem restQ (hc : n < c) (hs : s ≤ n) : still S (aSlice ER 25 (slR o n c) (some (nI s)) none none S) = some (slR (o + s) (n - s) (c - s), S) := by
  refine still_of ?_
  have e3 : aSlice ER 25 (slR o n c) (some (nI s)) none none S =
    (match aBounds n (Nat.max n c) (some s) none none with
      | some (a, h, m) => (bif Nat.blt a (Nat.max n c) then some (.slice (some (0, o + a * 1)) (h - a) (.atl (Nat.max n c - a))) else bif Nat.beq a 0 then some (.slice (some (0, o)) 0 (.atl 0)) else some .slice0) | none => none) := by kernel_rfl
  have e : Nat.max n c = c := Nat.max_eq_right (by omega)
  have e4 : aBounds n (Nat.max n c) (some s) none none = some (s, n, c) := by
    rw [e]
    unfold aBounds
    simp only [Ax.ble_t hs, cond_true]
  rw [e3, e4]
  simp only [e, blt_t (show s < c by omega), cond_true, Nat.mul_one]
  rfl
end
theorem cutRun (h4 : 4 ≤ l.length) (ho : o ≤ l.length - 4) : AtS Try.prog 94 [.ptr (some (1, 0)), nI s] (stE l o bad) (cutR l o bad s, stE l (rO l o bad s) (rB l o bad s)) := by
  cases bad with
  | true => exact run_of_tm ERok noSum_ok (Eq.mp (vcUb o (l.length - 4 - o) (l.length - o) s (.cells (l.map cellU) false) (fun v => v = (cutR l o true s, stE l (rO l o true s) (rB l o true s)))) rfl)
  | false =>
    refine run_of_tm ERok noSum_ok (Eq.mp (vcU o (l.length - 4 - o) (l.length - o) s (.cells (l.map cellU) false) (fun v => v = (cutR l o false s, stE l (rO l o false s) (rB l o false s)))) (ifB_mk (fun h => ?_) fun h => ?_))
    · rw [ltF_nn] at h
      have e : Nat.blt (l.length - 4 - o) s = true := blt_t (of_decide_eq_true h)
      simp only [cutR, rO, rB, e, cond_true, cond_false]; rfl
    · rw [ltF_nn] at h
      have hs : s ≤ l.length - 4 - o := by have := of_decide_eq_false h; omega
      have e : Nat.blt (l.length - 4 - o) s = false := blt_f hs
      have hst : stE l (o + s) false = stQ (.cells (l.map cellU) false) (o + s) (l.length - 4 - o - s) (l.length - o - s) false := by unfold stE; rw [Nat.sub_sub _ o s, Nat.sub_sub _ o s]
      refine ⟨cutQ (by omega) hs, restQ (by omega) hs, ?_⟩
      simp only [cutR, rO, rB, e, cond_false]
      rw [hst]; rfl
theorem ldQ {m c : Nat} {bb : Bool} {n o2 : Nat} (hok : o + n ≤ l.length) (i : Nat) (hi : i < n) :
    aLoad ER 5 (.ptr (some (0, o + i))) (stQ (.cells (l.map cellU) false) o2 m c bb) = some (.int .u8 (.ofNat (l.getD (o + i) 0)), stQ (.cells (l.map cellU) false) o2 m c bb) := by
  have hlt : o + i < l.length := by omega
  refine load_at (cs := l.map cellU) (rw := false) (by kernel_rfl) (by kernel_rfl) ?_
  rw [List.getElem?_map, List.getD_eq_getElem?_getD, List.getElem?_eq_getElem hlt]; rfl
theorem rt0 (hb : l.getD (o + 0) 0 < 256) : wrapF .u64 (Int.ofNat 0 + wrapF .u64 (.ofNat (l.getD (o + 0) 0))) = .ofNat (beN l o 1) := by
  show _ = Int.ofNat (256 * 0 + l.getD (o + 0) 0)
  generalize l.getD (o + 0) 0 = b at hb
  rw [wrapU64' (m := b) (by omega)]
  show wrapF .u64 (Int.ofNat (0 + b)) = _
  rw [wrapU64' (by omega), Nat.mul_zero]
theorem rt1 {k : Nat} (hx : beN l o k < 256 ^ k) (hk : k ≤ 7) (hb : l.getD (o + k) 0 < 256) :
    wrapF .u64 (wrapF .u64 (Int.ofNat 256 * .ofNat (beN l o k)) + wrapF .u64 (.ofNat (l.getD (o + k) 0))) = .ofNat (beN l o (k + 1)) := by
  show _ = Int.ofNat (256 * beN l o k + l.getD (o + k) 0)
  generalize l.getD (o + k) 0 = b at hb
  generalize beN l o k = x at hx
  have hx7 : x < 72057594037927936 := Nat.lt_of_lt_of_le hx (Nat.pow_le_pow_right (by omega) hk)
  have e : (Int.ofNat 256 * Int.ofNat x) = Int.ofNat (256 * x) := rfl
  rw [e, wrapU64' (m := b) (by omega), wrapU64' (by omega)]
  show wrapF .u64 (Int.ofNat (256 * x + b)) = _
  rw [wrapU64' (by omega)]
theorem num1 (h4 : 4 ≤ l.length) (ho : o ≤ l.length - 4) (hB : ∀ x, x ∈ l → x < 256) : AtS Try.prog 66 [.ptr (some (1, 0)), nI 1] (stE l o bad) (.int .u64 (.ofNat (numR l o bad 1)), stE l (rO l o bad 1) (rB l o bad 1)) := by
  cases bad with
  | true => exact run_of_tm ERok noSum_ok (Eq.mp (vcWb1 o (l.length - 4 - o) (l.length - o) (.cells (l.map cellU) false) (fun v => v = (.int .u64 (.ofNat (numR l o true 1)), stE l (rO l o true 1) (rB l o true 1)))) rfl)
  | false =>
    refine run_of_tm ERok noSum_ok (Eq.mp (vcW1 o (l.length - 4 - o) (l.length - o) (.ofNat (l.getD (o + 0) 0)) (.cells (l.map cellU) false) (fun v => v = (.int .u64 (.ofNat (numR l o false 1)), stE l (rO l o false 1) (rB l o false 1)))) (ifB_mk (fun h => ?_) fun h => ?_))
    · rw [ltF_nn] at h
      have e : Nat.blt (l.length - 4 - o) 1 = true := blt_t (of_decide_eq_true h)
      simp only [numR, rO, rB, e, cond_true, cond_false]; rfl
    · rw [ltF_nn] at h
      have hs : 1 ≤ l.length - 4 - o := by have := of_decide_eq_false h; omega
      have hok : o + 1 ≤ l.length := by omega
      have e : Nat.blt (l.length - 4 - o) 1 = false := blt_f hs
      have hst : stE l (o + 1) false = stQ (.cells (l.map cellU) false) (o + 1) (l.length - 4 - o - 1) (l.length - o - 1) false := by unfold stE; rw [Nat.sub_sub _ o 1, Nat.sub_sub _ o 1]
      refine ⟨cutQ (by omega) hs, restQ (by omega) hs, idxK (by kernel_rfl), ldQ hok (0 : Nat) (by omega), ?_⟩
      simp only [numR, rO, rB, e, cond_false]
      have hb : ∀ i, l.getD (o + i) 0 < 256 := fun i => getD_lt hB
      rw [rt0 (hb 0)]
      skip
      rw [hst]; rfl
theorem num2 (h4 : 4 ≤ l.length) (ho : o ≤ l.length - 4) (hB : ∀ x, x ∈ l → x < 256) : AtS Try.prog 66 [.ptr (some (1, 0)), nI 2] (stE l o bad) (.int .u64 (.ofNat (numR l o bad 2)), stE l (rO l o bad 2) (rB l o bad 2)) := by
  cases bad with
  | true => exact run_of_tm ERok noSum_ok (Eq.mp (vcWb2 o (l.length - 4 - o) (l.length - o) (.cells (l.map cellU) false) (fun v => v = (.int .u64 (.ofNat (numR l o true 2)), stE l (rO l o true 2) (rB l o true 2)))) rfl)
  | false =>
    refine run_of_tm ERok noSum_ok (Eq.mp (vcW2 o (l.length - 4 - o) (l.length - o) (.ofNat (l.getD (o + 0) 0)) (.ofNat (l.getD (o + 1) 0)) (.cells (l.map cellU) false) (fun v => v = (.int .u64 (.ofNat (numR l o false 2)), stE l (rO l o false 2) (rB l o false 2)))) (ifB_mk (fun h => ?_) fun h => ?_))
    · rw [ltF_nn] at h
      have e : Nat.blt (l.length - 4 - o) 2 = true := blt_t (of_decide_eq_true h)
      simp only [numR, rO, rB, e, cond_true, cond_false]; rfl
    · rw [ltF_nn] at h
      have hs : 2 ≤ l.length - 4 - o := by have := of_decide_eq_false h; omega
      have hok : o + 2 ≤ l.length := by omega
      have e : Nat.blt (l.length - 4 - o) 2 = false := blt_f hs
      have hst : stE l (o + 2) false = stQ (.cells (l.map cellU) false) (o + 2) (l.length - 4 - o - 2) (l.length - o - 2) false := by unfold stE; rw [Nat.sub_sub _ o 2, Nat.sub_sub _ o 2]
      refine ⟨cutQ (by omega) hs, restQ (by omega) hs, idxK (by kernel_rfl), ldQ hok (0 : Nat) (by omega), idxK (by kernel_rfl), ldQ hok (1 : Nat) (by omega), ?_⟩
      simp only [numR, rO, rB, e, cond_false]
      have hb : ∀ i, l.getD (o + i) 0 < 256 := fun i => getD_lt hB
      rw [rt0 (hb 0)]
      rw [rt1 (k := 1) (beN_lt hb 1 (by omega)) (by omega) (hb 1)]
      rw [hst]; rfl
theorem num8 (h4 : 4 ≤ l.length) (ho : o ≤ l.length - 4) (hB : ∀ x, x ∈ l → x < 256) : AtS Try.prog 66 [.ptr (some (1, 0)), nI 8] (stE l o bad) (.int .u64 (.ofNat (numR l o bad 8)), stE l (rO l o bad 8) (rB l o bad 8)) := by
  cases bad with
  | true => exact run_of_tm ERok noSum_ok (Eq.mp (vcWb8 o (l.length - 4 - o) (l.length - o) (.cells (l.map cellU) false) (fun v => v = (.int .u64 (.ofNat (numR l o true 8)), stE l (rO l o true 8) (rB l o true 8)))) rfl)
  | false =>
    refine run_of_tm ERok noSum_ok (Eq.mp (vcW8 o (l.length - 4 - o) (l.length - o) (.ofNat (l.getD (o + 0) 0)) (.ofNat (l.getD (o + 1) 0)) (.ofNat (l.getD (o + 2) 0)) (.ofNat (l.getD (o + 3) 0)) (.ofNat (l.getD (o + 4) 0)) (.ofNat (l.getD (o + 5) 0)) (.ofNat (l.getD (o + 6) 0)) (.ofNat (l.getD (o + 7) 0)) (.cells (l.map cellU) false) (fun v => v = (.int .u64 (.ofNat (numR l o false 8)), stE l (rO l o false 8) (rB l o false 8)))) (ifB_mk (fun h => ?_) fun h => ?_))
    · rw [ltF_nn] at h
      have e : Nat.blt (l.length - 4 - o) 8 = true := blt_t (of_decide_eq_true h)
      simp only [numR, rO, rB, e, cond_true, cond_false]; rfl
    · rw [ltF_nn] at h
      have hs : 8 ≤ l.length - 4 - o := by have := of_decide_eq_false h; omega
      have hok : o + 8 ≤ l.length := by omega
      have e : Nat.blt (l.length - 4 - o) 8 = false := blt_f hs
      have hst : stE l (o + 8) false = stQ (.cells (l.map cellU) false) (o + 8) (l.length - 4 - o - 8) (l.length - o - 8) false := by unfold stE; rw [Nat.sub_sub _ o 8, Nat.sub_sub _ o 8]
      refine ⟨cutQ (by omega) hs, restQ (by omega) hs, idxK (by kernel_rfl), ldQ hok (0 : Nat) (by omega), idxK (by kernel_rfl), ldQ hok (1 : Nat) (by omega), idxK (by kernel_rfl), ldQ hok (2 : Nat) (by omega), idxK (by kernel_rfl), ldQ hok (3 : Nat) (by omega), idxK (by kernel_rfl), ldQ hok (4 : Nat) (by omega), idxK (by kernel_rfl), ldQ hok (5 : Nat) (by omega), idxK (by kernel_rfl), ldQ hok (6 : Nat) (by omega), idxK (by kernel_rfl), ldQ hok (7 : Nat) (by omega), ?_⟩
      simp only [numR, rO, rB, e, cond_false]
      have hb : ∀ i, l.getD (o + i) 0 < 256 := fun i => getD_lt hB
      rw [rt0 (hb 0)]
      rw [rt1 (k := 1) (beN_lt hb 1 (by omega)) (by omega) (hb 1)]; rw [rt1 (k := 2) (beN_lt hb 2 (by omega)) (by omega) (hb 2)]; rw [rt1 (k := 3) (beN_lt hb 3 (by omega)) (by omega) (hb 3)]; rw [rt1 (k := 4) (beN_lt hb 4 (by omega)) (by omega) (hb 4)]; rw [rt1 (k := 5) (beN_lt hb 5 (by omega)) (by omega) (hb 5)]; rw [rt1 (k := 6) (beN_lt hb 6 (by omega)) (by omega) (hb 6)]; rw [rt1 (k := 7) (beN_lt hb 7 (by omega)) (by omega) (hb 7)]
      rw [hst]; rfl
theorem doneRun (h4 : 4 ≤ l.length) : AtS Try.prog 68 [.ptr (some (1, 0))] (stE l o bad) (.bool (!bad && eqF (.ofNat (l.length - 4 - o)) (.ofNat 0)), stE l o bad) := by
  cases bad with
  | true => exact run_of_tm ERok noSum_ok (Eq.mp (vcE1 o (l.length - 4 - o) (l.length - o) (.cells (l.map cellU) false) (fun v => v = (.bool (!true && eqF (.ofNat (l.length - 4 - o)) (.ofNat 0)), stE l o true))) rfl)
  | false => exact run_of_tm ERok noSum_ok (Eq.mp (vcE0 o (l.length - 4 - o) (l.length - o) (.cells (l.map cellU) false) (fun v => v = (.bool (!false && eqF (.ofNat (l.length - 4 - o)) (.ofNat 0)), stE l o false))) rfl)
end
end Go.Proofs.Ytlnohbilfogheaa.rrd
end

section
open Go Go.Ax Go.Proofs.Ytlnohbilfogheaa
namespace Go.Proofs.Ytlnohbilfogheaa.rrd
open Go.Proofs.Ytlnohbilfogheaa.rdr
set_option linter.unusedVariables false
section
variable {l : List Nat} {o : Nat} {S : ASt} {bad : Bool}
noncomputable def rrIn (r : Nat) (l : List Nat) (o : Nat) (bad : Bool) : AO := .cells [.slice (some (r, o)) (l.length - 4 - o) (.atl (l.length - o)), .bool bad] true
theorem atRow {f i r : Nat} {ex : List AV} {v v' : AV} {o' : Nat} {bad' : Bool} {rw : Bool} (h0 : l ≠ []) (hex : ∀ c, c ∈ ex → refsV 0 c)
    (h : AtS Try.prog f (.ptr (some (1, 0)) :: ex) (stE l o bad) (v, stE l o' bad')) (hvm : ∀ g : Nat → Nat, g 0 = r → mapV g v = v')
    (hi : S.h.get i = some (rrIn r l o bad)) (hr : S.h.get r = some (.cells (l.map cellU) rw)) (hne : i ≠ r) (his : i < S.next) (hrs : r < S.next) :
    Call1 Try.prog f (.ptr (some (i, 0)) :: ex) S (v', outS (gS [some (r, 0, true), some (i, 0, true)] S.next) [(1, rrIn r l o' bad')] S (S.next + 2)) := by
  have hg : ∀ j, (stE l o bad).h.get j = if j = 1 then some (rr o (l.length - 4 - o) (l.length - o) bad) else if j = 0 then some (.cells (l.map cellU) false) else none := fun j => by
    show (((T.e : T AO).set D 0 (.cells (l.map cellU) false)).set D 1 (rr o (l.length - 4 - o) (l.length - o) bad)).get j = _
    rw [T.get_set, T.get_set, T.get_e]
  have hg2 : ∀ {j x}, (stE l o bad).h.get j = some x → (j = 0 ∧ x = .cells (l.map cellU) false) ∨ (j = 1 ∧ x = rr o (l.length - 4 - o) (l.length - o) bad) := fun {j x} hj => by
    rw [hg] at hj
    by_cases e1 : j = 1
    · simp [e1] at hj; exact .inr ⟨e1, hj.symm⟩
    · by_cases e0 : j = 0
      · simp [e0] at hj; exact .inl ⟨e0, hj.symm⟩
      · simp [e1, e0] at hj
  have ren0 : ∀ ι : Ren, renS [some (r, 0, true), some (i, 0, true)] ι 0 = ι r := fun ι => by
    show (match ι r with | some L => some (L.sh 0) | none => none) = ι r
    cases ι r <;> rfl
  refine Call1.frame (S1 := stE l o bad) (args1 := .ptr (some (1, 0)) :: ex) (Q1 := fun q => q = (v, stE l o' bad')) (fun B w0 ι w args' _ hsr hv => h B w0 ι w args' hsr hv) (src := [some (r, 0, true), some (i, 0, true)])
    ⟨rfl, fun j i' o w hj => ?_, fun j x hj => ?_, fun j x hj hd => ?_, fun j j' x i1 o1 w1 o2 w2 hj ho s1 s2 => ?_⟩ (fun ι args' hv => ?_) (fun q hq => ?_)
  · match j, hj with
    | 0, hj => simp at hj; obtain ⟨rfl, rfl, rfl⟩ := hj; exact ⟨fun _ => rfl, _, hr, by simp⟩
    | 1, hj => simp at hj; obtain ⟨rfl, rfl, rfl⟩ := hj; exact ⟨fun _ => rfl, _, hi, by simp [rrIn]⟩
    | j + 2, hj => simp at hj
  · rcases hg2 hj with ⟨rfl, _⟩ | ⟨rfl, _⟩ <;> simp
  · rcases hg2 hj with ⟨rfl, rfl⟩ | ⟨rfl, rfl⟩
    · exact ⟨r, 0, true, _, rfl, hr, by simp, (fun h => by cases h), fun ι L ob hx => row_sub hx (by simpa using h0) (by rw [List.length_map]; exact takeU) (refU l)⟩
    · refine ⟨i, 0, true, _, rfl, hi, by simp [rrIn], fun _ => ⟨rfl, rfl⟩, fun ι L ob ⟨c, e, lo, hi', q1, q2, q3, q4, q5, q6⟩ => ⟨c, e, lo, hi', q1, q2, q3, fun v hv => ?_, fun k y y' hy hy' => ?_, q6⟩⟩
      · simp only [List.mem_cons, List.not_mem_nil, or_false] at hv
        rcases hv with rfl | rfl <;> rfl
      · match k, hy with
        | 0, hy =>
          simp at hy; subst hy
          cases q5 0 _ y' rfl hy' with
          | slice _ _ _ c' L _ hL hc hl => exact .slice 0 o _ c' L _ ((ren0 ι).trans hL) hc hl
        | 1, hy => simp at hy; subst hy; exact (q5 1 _ y' rfl hy').noRef (by simp [refsV])
        | k + 2, hy => simp at hy
  · rcases hg2 hj with ⟨rfl, rfl⟩ | ⟨rfl, rfl⟩
    · cases ho
    · simp at s1
      match j', s2 with
      | 0, s2 => simp at s2; exact absurd (s1.1.trans s2.1.symm) hne
      | 1, s2 => rfl
      | j' + 2, s2 => simp at s2
  · refine ⟨hv.size, fun k y y' hy hy' => ?_⟩
    match k, hy with
    | 0, hy =>
      simp at hy; subst hy
      cases hv.at_ 0 _ y' rfl hy' with
      | ptr _ _ L hL => exact .ptr 1 0 L (by simp [renS, hL, Loc.sh])
    | k + 1, hy =>
      have hy2 : ex[k]? = some y := by simpa using hy
      exact (hv.at_ (k + 1) y y' (by simpa using hy) hy').noRef (hex y (List.mem_of_getElem? hy2))
  · subst hq
    have g0 : gS [some (r, 0, true), some (i, 0, true)] S.next 0 = r := rfl
    have g1 : gS [some (r, 0, true), some (i, 0, true)] S.next 1 = i := rfl
    refine ⟨BackV.eq (hvm _ g0), ⟨Nat.le_refl _, by simp⟩, fun p hp => ?_, fun j x hj ho => ?_⟩
    · simp only [List.mem_cons, List.not_mem_nil, or_false] at hp
      subst hp
      refine ⟨by rw [g1]; omega, fun _ => ⟨_, by rw [hg]; simp; rfl, rfl⟩, .inr ⟨rfl, _, (by kernel_rfl : (stE l o' bad').h.get 1 = some (rr o' (l.length - 4 - o') (l.length - o') bad')), BackO.cells ?_⟩⟩
      simp only [mapVs, mapV, slR, g0]
    · rcases hg2 hj with ⟨rfl, rfl⟩ | ⟨rfl, _⟩
      · cases ho
      · exact ⟨_, List.mem_cons_self .., rfl⟩
end
end Go.Proofs.Ytlnohbilfogheaa.rrd
end

section
open Go Go.Ax Go.Proofs.Ytlnohbilfogheaa
namespace Go.Proofs.Ytlnohbilfogheaa.rrd
open Go.Proofs.Ytlnohbilfogheaa.rdr
set_option linter.unusedVariables false
noncomputable def smR (q : CallT) : CallT := onlyC [94, 66] q
noncomputable def t67 (q : CallT) (x o n c o1 n1 c1 o2 n2 c2 : Nat) (W : AV) (R : AO) (bad bad1 bad2 : Bool) : Tr (AV × ASt) := (TM ER (smR q) [(67, ⟨[5, 9], [], [], []⟩)] fl0 60).call 67 [.ptr (some (1, 0))] (stQ R o n c bad)
noncomputable def vc67_s0 (o n c : Nat) (R : AO) (bad : Bool) : ASt := mkSt [(0, R), (1, .cells [.slice (some (0, o)) n (.atl c), .bool bad] true)] 2
noncomputable def vc67_s1 (o1 n1 c1 : Nat) (R : AO) (bad1 : Bool) : ASt := mkSt [(0, R), (1, .cells [.slice (some (0, o1)) n1 (.atl c1), .bool bad1] true)] 2
noncomputable def vc67_s2 (o2 n2 c2 : Nat) (R : AO) (bad2 : Bool) : ASt := mkSt [(0, R), (1, .cells [.slice (some (0, o2)) n2 (.atl c2), .bool bad2] true)] 2
theorem vc67 (q : CallT) (x o n c o1 n1 c1 o2 n2 c2 : Nat) (W : AV) (R : AO) (bad bad1 bad2 : Bool) (Q : AV × ASt → Prop) :
  ((M ER (drawA ER) (smR q) 56).call 66 [.ptr (some (1, 0)), .int .i64 (.ofNat 2)] (vc67_s0 o n c R bad) = some (.int .u64 (.ofNat x), vc67_s1 o1 n1 c1 R bad1) ∧ (M ER (drawA ER) (smR q) 55).call 94 [.ptr (some (1, 0)), .int .i64 (wrapF .i64 (.ofNat x))] (vc67_s1 o1 n1 c1 R bad1) = some (W, vc67_s2 o2 n2 c2 R bad2) ∧ Q (W, vc67_s2 o2 n2 c2 R bad2)) =
  (t67 q x o n c o1 n1 c1 o2 n2 c2 W R bad bad1 bad2).allY (fun r => Q (r.1, canS [0, 1] r.2)) (.v (.int .u64 (.ofNat x), vc67_s1 o1 n1 c1 R bad1) (.v (W, vc67_s2 o2 n2 c2 R bad2) .nil)) := by kernel_rfl
section
variable {l : List Nat} {o s : Nat} {S : ASt} {bad : Bool}
theorem rO_le (ho : o ≤ l.length - 4) : rO l o bad s ≤ l.length - 4 := by
  unfold rO
  cases bad
  · simp only [cond_false]
    cases h : Nat.blt (l.length - 4 - o) s
    · simp only [cond_false]
      have : ¬ l.length - 4 - o < s := fun g => by rw [blt_t g] at h; cases h
      omega
    · simp only [cond_true]; exact ho
  · exact ho
theorem blobRun (h4 : 4 ≤ l.length) (ho : o ≤ l.length - 4) (hB : ∀ x, x ∈ l → x < 256) : AtS Try.prog 67 [.ptr (some (1, 0))] (stE l o bad)
    (cutR l (rO l o bad 2) (rB l o bad 2) (numR l o bad 2), stE l (rO l (rO l o bad 2) (rB l o bad 2) (numR l o bad 2)) (rB l (rO l o bad 2) (rB l o bad 2) (numR l o bad 2))) := by
  obtain ⟨o1, h1⟩ : ∃ x, x = rO l o bad 2 := ⟨_, rfl⟩
  obtain ⟨b1, h2⟩ : ∃ x, x = rB l o bad 2 := ⟨_, rfl⟩
  obtain ⟨n, h3⟩ : ∃ x, x = numR l o bad 2 := ⟨_, rfl⟩
  have ho1 : o1 ≤ l.length - 4 := h1 ▸ rO_le ho
  have hn : n < 65536 := by
    rw [h3]; unfold numR
    cases rB l o bad 2
    · exact beN_lt (fun i => getD_lt hB) 2 (by omega)
    · exact Nat.zero_lt_succ _
  have c1 : Call1 Try.prog 66 [.ptr (some (1, 0)), nI 2] (stE l o bad) (.int .u64 (.ofNat n), stE l o1 b1) := by rw [h1, h2, h3]; exact (num2 h4 ho hB).call1
  have c2 : Call1 Try.prog 94 [.ptr (some (1, 0)), nI n] (stE l o1 b1) (cutR l o1 b1 n, stE l (rO l o1 b1 n) (rB l o1 b1 n)) := (cutRun h4 ho1).call1
  rw [← h1, ← h2, ← h3]
  refine run_of_tm ERok (onlyC_ok (fs := [94, 66]) (tabC_ok (tab := [(66, [.ptr (some (1, 0)), nI 2], stE l o bad, (.int .u64 (.ofNat n), stE l o1 b1)), (94, [.ptr (some (1, 0)), nI n], stE l o1 b1, (cutR l o1 b1 n, stE l (rO l o1 b1 n) (rB l o1 b1 n)))]) fun e he => by
      simp only [List.mem_cons, List.not_mem_nil, or_false] at he
      rcases he with rfl | rfl
      · exact c1
      · exact c2))
    (Eq.mp (vc67 _ n o (l.length - 4 - o) (l.length - o) o1 (l.length - 4 - o1) (l.length - o1) (rO l o1 b1 n) (l.length - 4 - rO l o1 b1 n) (l.length - rO l o1 b1 n) (cutR l o1 b1 n) (.cells (l.map cellU) false) bad b1 (rB l o1 b1 n) (fun v => v = (cutR l o1 b1 n, stE l (rO l o1 b1 n) (rB l o1 b1 n)))) ⟨call_at (onlyC_at rfl (tabC_hd ..)), ?_, rfl⟩)
  have hw : wrapF .i64 (.ofNat n) = .ofNat n := wrap_nat (by omega)
  rw [hw]
  exact call_at (onlyC_at rfl ((tabC_tlf rfl).trans (tabC_hd ..)))
end
end Go.Proofs.Ytlnohbilfogheaa.rrd
end

section
open Go Go.Ax Go.Proofs.Ytlnohbilfogheaa
namespace Go.Proofs.Ytlnohbilfogheaa.rmy
open Go.Proofs.Ytlnohbilfogheaa.rdr
set_option linter.unusedVariables false
noncomputable def fnsM : List (Nat × Func) := [(69, Try.f69)]
noncomputable def EM : Env := envEx Try.prog [0, 3, 4, 5, 25, 28, 61, 63] fnsM []
noncomputable def flsM : List (Nat × Fl) := [(69, ⟨[35, 41, 50], [], [5, 9, 14, 19, 23, 28, 31, 36, 42, 46, 51, 56, 60], []⟩)]
noncomputable def tM (k m t a s : Int) (n : Nat) (v : AV) (R : AO) : Tr (AV × ASt) := (TM EM noSum flsM fl0 60).call 69 [.agg [.int .i64 k, .int .u64 m, .int .u64 t, .int .u64 a, .int .u64 s, v]] (mkSt [(0, R)] 1)
noncomputable def vcM_s0 : ASt := mkSt [] 2
noncomputable def vcM_s1 (k m t a s : Int) (v : AV) (R : AO) : ASt := mkSt [(0, R), (1, .cells [.int .i64 k, .int .u64 m, .int .u64 t, .int .u64 a, .int .u64 s, v] true)] 2
theorem vcM (k m t a s : Int) (n : Nat) (v : AV) (R : AO) (Q : AV × ASt → Prop) :
  (ifB (ltF k (.ofNat 1)) (Q (.bool false, vcM_s0)) (ifB (ltF (.ofNat 4) k) (Q (.bool false, vcM_s0)) (ifB (eqF m (.ofNat 0)) (Q (.bool false, vcM_s0)) (ifB (eqF t (.ofNat 0)) (ifB (!eqF k (.ofNat 1)) (Q (.bool false, vcM_s0)) (ifB (eqF k (.ofNat 2)) (ifB (ltF (.ofNat 0) s) (aBuiltinM EM .len [25] [v] (vcM_s1 k m t a s v R) = some (.int .i64 (.ofNat n), vcM_s1 k m t a s v R) ∧ ifB (!ltF (.ofNat n) (.ofNat 1)) (aBuiltinM EM .len [25] [v] (vcM_s1 k m t a s v R) = some (.int .i64 (.ofNat n), vcM_s1 k m t a s v R) ∧ ifB (!ltF (.ofNat 4000) (.ofNat n)) (Q (.bool true, vcM_s0)) (Q (.bool false, vcM_s0))) (Q (.bool false, vcM_s0))) (Q (.bool false, vcM_s0))) (ifB (eqF s (.ofNat 0)) (aBuiltinM EM .len [25] [v] (vcM_s1 k m t a s v R) = some (.int .i64 (.ofNat n), vcM_s1 k m t a s v R) ∧ ifB (eqF (.ofNat n) (.ofNat 0)) (ifB (eqF k (.ofNat 3)) (Q (.bool true, vcM_s0)) (ifB (eqF a (.ofNat 0)) (Q (.bool true, vcM_s0)) (Q (.bool false, vcM_s0)))) (Q (.bool false, vcM_s0))) (Q (.bool false, vcM_s0))))) (ifB (eqF k (.ofNat 2)) (ifB (ltF (.ofNat 0) s) (aBuiltinM EM .len [25] [v] (vcM_s1 k m t a s v R) = some (.int .i64 (.ofNat n), vcM_s1 k m t a s v R) ∧ ifB (!ltF (.ofNat n) (.ofNat 1)) (aBuiltinM EM .len [25] [v] (vcM_s1 k m t a s v R) = some (.int .i64 (.ofNat n), vcM_s1 k m t a s v R) ∧ ifB (!ltF (.ofNat 4000) (.ofNat n)) (Q (.bool true, vcM_s0)) (Q (.bool false, vcM_s0))) (Q (.bool false, vcM_s0))) (Q (.bool false, vcM_s0))) (ifB (eqF s (.ofNat 0)) (aBuiltinM EM .len [25] [v] (vcM_s1 k m t a s v R) = some (.int .i64 (.ofNat n), vcM_s1 k m t a s v R) ∧ ifB (eqF (.ofNat n) (.ofNat 0)) (ifB (eqF k (.ofNat 3)) (Q (.bool true, vcM_s0)) (ifB (eqF a (.ofNat 0)) (Q (.bool true, vcM_s0)) (Q (.bool false, vcM_s0)))) (Q (.bool false, vcM_s0))) (Q (.bool false, vcM_s0)))))))) =
  (tM k m t a s n v R).allY (fun r => Q (r.1, canS [] r.2)) (.b .nil (.b .nil (.b .nil (.b (.b .nil (.b (.b (.v (.int .i64 (.ofNat n), vcM_s1 k m t a s v R) (.b (.v (.int .i64 (.ofNat n), vcM_s1 k m t a s v R) (.b .nil .nil)) .nil)) .nil) (.b (.v (.int .i64 (.ofNat n), vcM_s1 k m t a s v R) (.b (.b .nil (.b .nil .nil)) .nil)) .nil))) (.b (.b (.v (.int .i64 (.ofNat n), vcM_s1 k m t a s v R) (.b (.v (.int .i64 (.ofNat n), vcM_s1 k m t a s v R) (.b .nil .nil)) .nil)) .nil) (.b (.v (.int .i64 (.ofNat n), vcM_s1 k m t a s v R) (.b (.b .nil (.b .nil .nil)) .nil)) .nil)))))) := by kernel_rfl
theorem EMok : Env.Ok Try.prog EM := envEx_ok (xs := []) ⟨⟨Try.func69, Try.call69⟩, trivial⟩ trivial (by kernel_rfl)
def may3 (k a s : Int) (n : Nat) : Bool := bif eqF k (.ofNat 2) then (ltF (.ofNat 0) s && (!ltF (.ofNat n) (.ofNat 1) && !ltF (.ofNat 4000) (.ofNat n))) else (eqF s (.ofNat 0) && (eqF (.ofNat n) (.ofNat 0) && (eqF k (.ofNat 3) || eqF a (.ofNat 0))))
def mayR (k m t a s : Int) (n : Nat) : Bool :=
  bif ltF k (.ofNat 1) then false else bif ltF (.ofNat 4) k then false else bif eqF m (.ofNat 0) then false else bif eqF t (.ofNat 0) then (bif !eqF k (.ofNat 1) then false else may3 k a s n) else may3 k a s n
theorem sl25 : sliceT EM 25 = some 1 := by kernel_rfl
theorem mayRun {k m t a s : Int} {v : AV} {R : AO} {l : List Nat} (h : ArgB 0 v R l) :
    AtS Try.prog 69 [.agg [.int .i64 k, .int .u64 m, .int .u64 t, .int .u64 a, .int .u64 s, v]] (mkSt [(0, R)] 1) (.bool (mayR k m t a s l.length), mkSt [] 2) := by
  have hl : ∀ S, aBuiltinM EM .len [25] [v] S = some (nI l.length, S) := fun S => (h.sl sl25).len S
  refine run_of_tm EMok noSum_ok (Eq.mp (vcM k m t a s l.length v R (fun r => r = (.bool (mayR k m t a s l.length), mkSt [] 2))) ?_)
  have key : ∀ {x : Bool}, x = mayR k m t a s l.length → ((AV.bool x, mkSt [] 2) : AV × ASt) = (.bool (mayR k m t a s l.length), mkSt [] 2) := fun {x} e => by rw [e]
  refine ifB_mk (fun h1 => key ?_) fun h1 => ifB_mk (fun h2 => key ?_) fun h2 => ifB_mk (fun h3 => key ?_) fun h3 => ifB_mk (fun h4 => ifB_mk (fun h5 => key ?_) fun h5 => ?_) fun h4 => ?_
  · simp only [mayR, h1, cond_true]
  · simp only [mayR, h1, h2, cond_true, cond_false]
  · simp only [mayR, h1, h2, h3, cond_true, cond_false]
  · simp only [mayR, h1, h2, h3, h4, h5, cond_true, cond_false]
  · have e : mayR k m t a s l.length = may3 k a s l.length := by simp only [mayR, h1, h2, h3, h4, h5, cond_true, cond_false]
    rw [e] at key ⊢
    refine ifB_mk (fun g1 => ifB_mk (fun g2 => ⟨hl _, ifB_mk (fun g3 => ⟨hl _, ifB_mk (fun g4 => key ?_) fun g4 => key ?_⟩) fun g3 => key ?_⟩) fun g2 => key ?_) fun g1 => ifB_mk (fun g2 => ⟨hl _, ifB_mk (fun g3 => ifB_mk (fun g4 => key ?_) fun g4 => ifB_mk (fun g5 => key ?_) fun g5 => key ?_) fun g3 => key ?_⟩) fun g2 => key ?_
    · simp only [may3, g1, g2, g3, g4, cond_true, Bool.and_self]
    · simp only [may3, g1, g2, g3, g4, cond_true, Bool.and_false]
    · simp only [may3, g1, g2, g3, cond_true, Bool.and_false, Bool.false_and]
    · simp only [may3, g1, g2, cond_true, Bool.false_and]
    · simp only [may3, g1, g2, g3, g4, cond_false, Bool.true_or, Bool.and_self]
    · simp only [may3, g1, g2, g3, g4, g5, cond_false, Bool.or_true, Bool.and_self]
    · simp only [may3, g1, g2, g3, g4, g5, cond_false, Bool.or_self, Bool.and_false]
    · simp only [may3, g1, g2, g3, cond_false, Bool.and_false, Bool.false_and]
    · simp only [may3, g1, g2, cond_false, Bool.false_and]
  · have e : mayR k m t a s l.length = may3 k a s l.length := by simp only [mayR, h1, h2, h3, h4, cond_false]
    rw [e] at key ⊢
    refine ifB_mk (fun g1 => ifB_mk (fun g2 => ⟨hl _, ifB_mk (fun g3 => ⟨hl _, ifB_mk (fun g4 => key ?_) fun g4 => key ?_⟩) fun g3 => key ?_⟩) fun g2 => key ?_) fun g1 => ifB_mk (fun g2 => ⟨hl _, ifB_mk (fun g3 => ifB_mk (fun g4 => key ?_) fun g4 => ifB_mk (fun g5 => key ?_) fun g5 => key ?_) fun g3 => key ?_⟩) fun g2 => key ?_
    · simp only [may3, g1, g2, g3, g4, cond_true, Bool.and_self]
    · simp only [may3, g1, g2, g3, g4, cond_true, Bool.and_false]
    · simp only [may3, g1, g2, g3, cond_true, Bool.and_false, Bool.false_and]
    · simp only [may3, g1, g2, cond_true, Bool.false_and]
    · simp only [may3, g1, g2, g3, g4, cond_false, Bool.true_or, Bool.and_self]
    · simp only [may3, g1, g2, g3, g4, g5, cond_false, Bool.or_true, Bool.and_self]
    · simp only [may3, g1, g2, g3, g4, g5, cond_false, Bool.or_self, Bool.and_false]
    · simp only [may3, g1, g2, g3, cond_false, Bool.and_false, Bool.false_and]
    · simp only [may3, g1, g2, cond_false, Bool.false_and]
end Go.Proofs.Ytlnohbilfogheaa.rmy
end

section
open Go Go.Ax Go.Proofs.Ytlnohbilfogheaa
namespace Go.Proofs.Ytlnohbilfogheaa.rnu
open Go.Proofs.Ytlnohbilfogheaa.rdr (AtS wrapU64')
set_option linter.unusedVariables false
def fl0 : Fl := ⟨[], [], [], []⟩
noncomputable def fnsN : List (Nat × Func) := [(81, Try.f81), (39, Try.f39), (80, Try.f80)]
noncomputable def EN : Env := envEx Try.prog [0, 3, 4, 5, 25, 28] fnsN []
noncomputable def tN8 (x : Int) : Tr (AV × ASt) := (TM EN noSum [(81, ⟨[], [10], [], []⟩), (39, fl0)] fl0 60).call 81 [.int .u64 x, .int .i64 8] (mkSt [] 0)
noncomputable def tN2 (x : Int) : Tr (AV × ASt) := (TM EN noSum [(81, ⟨[], [10], [], []⟩), (39, fl0)] fl0 60).call 81 [.int .u64 x, .int .i64 2] (mkSt [] 0)
noncomputable def vcN2_s0 (x : Int) : ASt := mkSt [(0, .cells [.int .u8 (wrapF .u8 (Int.tmod (wrapF .u64 (Int.tdiv x (.ofNat 256))) (.ofNat 256))), .int .u8 (wrapF .u8 (Int.tmod x (.ofNat 256)))] true)] 1
theorem vcN2 (x : Int) (Q : AV × ASt → Prop) :
  (Q (.slice (some (0, 0)) 2 (.known 2), vcN2_s0 x)) =
  (tN2 x).allY (fun r => Q (r.1, canS [0, 1, 2, 3] r.2)) (.nil) := by kernel_rfl
noncomputable def vcN8_s0 (x : Int) : ASt := mkSt [(0, .cells [.int .u8 (wrapF .u8 (Int.tmod (wrapF .u64 (Int.tdiv (wrapF .u64 (Int.tdiv (wrapF .u64 (Int.tdiv (wrapF .u64 (Int.tdiv (wrapF .u64 (Int.tdiv (wrapF .u64 (Int.tdiv (wrapF .u64 (Int.tdiv x (.ofNat 256))) (.ofNat 256))) (.ofNat 256))) (.ofNat 256))) (.ofNat 256))) (.ofNat 256))) (.ofNat 256))) (.ofNat 256))), .int .u8 (wrapF .u8 (Int.tmod (wrapF .u64 (Int.tdiv (wrapF .u64 (Int.tdiv (wrapF .u64 (Int.tdiv (wrapF .u64 (Int.tdiv (wrapF .u64 (Int.tdiv (wrapF .u64 (Int.tdiv x (.ofNat 256))) (.ofNat 256))) (.ofNat 256))) (.ofNat 256))) (.ofNat 256))) (.ofNat 256))) (.ofNat 256))), .int .u8 (wrapF .u8 (Int.tmod (wrapF .u64 (Int.tdiv (wrapF .u64 (Int.tdiv (wrapF .u64 (Int.tdiv (wrapF .u64 (Int.tdiv (wrapF .u64 (Int.tdiv x (.ofNat 256))) (.ofNat 256))) (.ofNat 256))) (.ofNat 256))) (.ofNat 256))) (.ofNat 256))), .int .u8 (wrapF .u8 (Int.tmod (wrapF .u64 (Int.tdiv (wrapF .u64 (Int.tdiv (wrapF .u64 (Int.tdiv (wrapF .u64 (Int.tdiv x (.ofNat 256))) (.ofNat 256))) (.ofNat 256))) (.ofNat 256))) (.ofNat 256))), .int .u8 (wrapF .u8 (Int.tmod (wrapF .u64 (Int.tdiv (wrapF .u64 (Int.tdiv (wrapF .u64 (Int.tdiv x (.ofNat 256))) (.ofNat 256))) (.ofNat 256))) (.ofNat 256))), .int .u8 (wrapF .u8 (Int.tmod (wrapF .u64 (Int.tdiv (wrapF .u64 (Int.tdiv x (.ofNat 256))) (.ofNat 256))) (.ofNat 256))), .int .u8 (wrapF .u8 (Int.tmod (wrapF .u64 (Int.tdiv x (.ofNat 256))) (.ofNat 256))), .int .u8 (wrapF .u8 (Int.tmod x (.ofNat 256)))] true)] 1
theorem vcN8 (x : Int) (Q : AV × ASt → Prop) :
  (Q (.slice (some (0, 0)) 8 (.known 8), vcN8_s0 x)) =
  (tN8 x).allY (fun r => Q (r.1, canS [0, 1, 2, 3] r.2)) (.nil) := by kernel_rfl
theorem ENok : Env.Ok Try.prog EN := envEx_ok (xs := []) ⟨⟨Try.func81, Try.call81⟩, ⟨Try.func39, Try.call39⟩, ⟨Try.func80, Try.call80⟩, trivial⟩ trivial (by kernel_rfl)
def dv (m : Nat) : Nat → Nat
  | 0 => m
  | k + 1 => dv m k / 256
theorem dv_le (m : Nat) : ∀ k, dv m k ≤ m
  | 0 => Nat.le_refl _
  | k + 1 => Nat.le_trans (Nat.div_le_self _ _) (dv_le m k)
theorem q1 {m : Nat} (hm : m < 18446744073709551616) (k : Nat) : wrapF .u64 (Int.tdiv (.ofNat (dv m k)) (.ofNat 256)) = .ofNat (dv m (k + 1)) := by
  show wrapF .u64 (.ofNat (dv m k / 256)) = _
  exact wrapU64' (Nat.lt_of_le_of_lt (dv_le m (k + 1)) hm)
theorem wrapU8 {m : Nat} (h : m < 256) : wrapF .u8 (.ofNat m) = .ofNat m := by
  have e : modN (.ofNat m) (big .u8) = m := Nat.mod_eq_of_lt h
  unfold wrapF
  have hb : Nat.blt (modN (.ofNat m) (big .u8)) (half .u8) = true := by rw [e]; exact blt_t h
  show (bif Nat.blt (modN (.ofNat m) (big .u8)) (half .u8) then Int.ofNat (modN (.ofNat m) (big .u8)) else _) = _
  rw [hb, e]; rfl
theorem q2 (a : Nat) : wrapF .u8 (Int.tmod (.ofNat a) (.ofNat 256)) = .ofNat (a % 256) := by
  show wrapF .u8 (.ofNat (a % 256)) = _
  exact wrapU8 (Nat.mod_lt _ (by omega))
def row2 (m : Nat) : List AV := [.int .u8 (.ofNat (dv m 1 % 256)), .int .u8 (.ofNat (dv m 0 % 256))]
theorem num2 {m : Nat} (hm : m < 18446744073709551616) : AtS Try.prog 81 [.int .u64 (.ofNat m), .int .i64 2] (mkSt [] 0) (.slice (some (0, 0)) 2 (.known 2), mkSt [(0, .cells (row2 m) true)] 1) := by
  refine run_of_tm ENok noSum_ok (Eq.mp (vcN2 (.ofNat (dv m 0)) (fun v => v = (.slice (some (0, 0)) 2 (.known 2), mkSt [(0, .cells (row2 m) true)] 1))) ?_)
  simp only [vcN2_s0, q1 hm, q2]
  rfl
def row8 (m : Nat) : List AV := [.int .u8 (.ofNat (dv m 7 % 256)), .int .u8 (.ofNat (dv m 6 % 256)), .int .u8 (.ofNat (dv m 5 % 256)), .int .u8 (.ofNat (dv m 4 % 256)), .int .u8 (.ofNat (dv m 3 % 256)), .int .u8 (.ofNat (dv m 2 % 256)), .int .u8 (.ofNat (dv m 1 % 256)), .int .u8 (.ofNat (dv m 0 % 256))]
theorem num8 {m : Nat} (hm : m < 18446744073709551616) : AtS Try.prog 81 [.int .u64 (.ofNat m), .int .i64 8] (mkSt [] 0) (.slice (some (0, 0)) 8 (.known 8), mkSt [(0, .cells (row8 m) true)] 1) := by
  refine run_of_tm ENok noSum_ok (Eq.mp (vcN8 (.ofNat (dv m 0)) (fun v => v = (.slice (some (0, 0)) 8 (.known 8), mkSt [(0, .cells (row8 m) true)] 1))) ?_)
  simp only [vcN8_s0, q1 hm, q2]
  rfl
end Go.Proofs.Ytlnohbilfogheaa.rnu
end

section
open Go Go.Ax Go.Proofs.Ytlnohbilfogheaa
namespace Go.Proofs.Ytlnohbilfogheaa.rnu
open Go.Proofs.Ytlnohbilfogheaa.rdr (AtS wrapU64' AtS.call1)
set_option linter.unusedVariables false
noncomputable def fnsB : List (Nat × Func) := [(41, Try.f41), (81, Try.f81)]
noncomputable def EB : Env := envEx Try.prog [0, 3, 4, 5, 25, 28] fnsB []
noncomputable def smB (q : CallT) : CallT := onlyC [81] q
noncomputable def tB (q : CallT) (n : Nat) (v : AV) (R r2 r3 r4 : AO) : Tr (AV × ASt) := (TM EB (smB q) [(41, ⟨[4, 6, 8], [], [], []⟩)] fl0 60).call 41 [v] (mkSt [(0, R)] 1)
noncomputable def vcB_s0 (R : AO) : ASt := mkSt [(0, R)] 1
noncomputable def vcB_s1 (R r2 : AO) : ASt := mkSt [(0, R), (1, r2)] 2
noncomputable def vcB_s2 (R r3 r4 : AO) : ASt := mkSt [(0, R), (1, r3), (2, r4)] 3
theorem vcB (q : CallT) (n : Nat) (v : AV) (R r2 r3 r4 : AO) (Q : AV × ASt → Prop) :
  (aBuiltinM EB .len [25] [v] (vcB_s0 R) = some (.int .i64 (.ofNat n), vcB_s0 R) ∧ (M EB (drawA EB) (smB q) 56).call 81 [.int .u64 (wrapF .u64 (.ofNat n)), .int .i64 (.ofNat 2)] (vcB_s0 R) = some (.slice (some (1, 0)) 2 (.known 2), vcB_s1 R r2) ∧ aBuiltinM EB .append [25, 25] [.slice (some (1, 0)) 2 (.known 2), v] (vcB_s1 R r2) = some (.slice (some (2, 0)) (2 + n) (.rest 1), vcB_s2 R r3 r4) ∧ Q (.slice (some (2, 0)) (2 + n) (.rest 1), vcB_s2 R r3 r4)) =
  (tB q n v R r2 r3 r4).allY (fun r => Q (r.1, canS [0, 1, 2, 3] r.2)) (.v (.int .i64 (.ofNat n), vcB_s0 R) (.v (.slice (some (1, 0)) 2 (.known 2), vcB_s1 R r2) (.v (.slice (some (2, 0)) (2 + n) (.rest 1), vcB_s2 R r3 r4) .nil))) := by kernel_rfl
theorem EBok : Env.Ok Try.prog EB := envEx_ok (xs := []) ⟨⟨Try.func41, Try.call41⟩, ⟨Try.func81, Try.call81⟩, trivial⟩ trivial (by kernel_rfl)
theorem sl25 : sliceT EB 25 = some 1 := by kernel_rfl
theorem ap25 : appT EB 25 25 = some (1, 1) := by kernel_rfl
theorem num2_any {m : Nat} (hm : m < 18446744073709551616) (S : ASt) : Call1 Try.prog 81 [.int .u64 (.ofNat m), .int .i64 2] S (.slice (some (S.next, 0)) 2 (.known 2), outS (fun j => S.next + j) [(0, .cells (row2 m) true)] S (S.next + 1)) := by
  have hc : ∀ c, c ∈ row2 m → refsV 0 c := fun c hc => by
    simp only [row2, List.mem_cons, List.not_mem_nil, or_false] at hc
    rcases hc with rfl | rfl <;> simp [refsV]
  have hn : ∀ {j x}, (mkSt [] 0).h.get j = some x → False := fun {j x} h => by
    have h0 : (mkSt [] 0).h.get j = none := T.get_e j
    rw [h0] at h
    cases h
  exact Call1.frame (S1 := mkSt [] 0) (args1 := [.int .u64 (.ofNat m), .int .i64 2]) (Q1 := fun q => q = (.slice (some (0, 0)) 2 (.known 2), mkSt [(0, .cells (row2 m) true)] 1)) (fun B w0 ι w args' _ hsr hv => num2 hm B w0 ι w args' hsr hv) (src := [])
    ⟨rfl, (fun j i' o w hj => by simp at hj), (fun j x hj => (hn hj).elim), (fun j x hj hd => (hn hj).elim), (fun j j' x i1 o1 w1 o2 w2 hj ho s1 s2 => by simp at s1)⟩
    (fun ι args' hv => ⟨hv.size, fun k y y' hy hy' => (hv.at_ k y y' hy hy').noRef (by
      match k, hy with
      | 0, hy => simp at hy; subst hy; simp [refsV]
      | 1, hy => simp at hy; subst hy; simp [refsV]
      | k + 2, hy => simp at hy)⟩)
    (fun q hq => by
      subst hq
      exact ⟨BackV.eq rfl, ⟨Nat.le_refl _, by simp⟩, fun p hp => by
        simp only [List.mem_cons, List.not_mem_nil, or_false] at hp
        subst hp
        exact ⟨Nat.lt_succ_self _, fun h => by simp at h, .inr ⟨rfl, _, (by kernel_rfl : (mkSt [(0, AO.cells (row2 m) true)] 1).h.get 0 = some (.cells (row2 m) true)), BackO.row hc⟩⟩, fun j x hj ho => (hn hj).elim⟩)
theorem num8_any {m : Nat} (hm : m < 18446744073709551616) (S : ASt) : Call1 Try.prog 81 [.int .u64 (.ofNat m), .int .i64 8] S (.slice (some (S.next, 0)) 8 (.known 8), outS (fun j => S.next + j) [(0, .cells (row8 m) true)] S (S.next + 1)) := by
  have hc : ∀ c, c ∈ row8 m → refsV 0 c := fun c hc => by
    simp only [row8, List.mem_cons, List.not_mem_nil, or_false] at hc
    rcases hc with rfl | rfl | rfl | rfl | rfl | rfl | rfl | rfl <;> simp [refsV]
  have hn : ∀ {j x}, (mkSt [] 0).h.get j = some x → False := fun {j x} h => by
    have h0 : (mkSt [] 0).h.get j = none := T.get_e j
    rw [h0] at h
    cases h
  exact Call1.frame (S1 := mkSt [] 0) (args1 := [.int .u64 (.ofNat m), .int .i64 8]) (Q1 := fun q => q = (.slice (some (0, 0)) 8 (.known 8), mkSt [(0, .cells (row8 m) true)] 1)) (fun B w0 ι w args' _ hsr hv => num8 hm B w0 ι w args' hsr hv) (src := [])
    ⟨rfl, (fun j i' o w hj => by simp at hj), (fun j x hj => (hn hj).elim), (fun j x hj hd => (hn hj).elim), (fun j j' x i1 o1 w1 o2 w2 hj ho s1 s2 => by simp at s1)⟩
    (fun ι args' hv => ⟨hv.size, fun k y y' hy hy' => (hv.at_ k y y' hy hy').noRef (by
      match k, hy with
      | 0, hy => simp at hy; subst hy; simp [refsV]
      | 1, hy => simp at hy; subst hy; simp [refsV]
      | k + 2, hy => simp at hy)⟩)
    (fun q hq => by
      subst hq
      exact ⟨BackV.eq rfl, ⟨Nat.le_refl _, by simp⟩, fun p hp => by
        simp only [List.mem_cons, List.not_mem_nil, or_false] at hp
        subst hp
        exact ⟨Nat.lt_succ_self _, fun h => by simp at h, .inr ⟨rfl, _, (by kernel_rfl : (mkSt [(0, AO.cells (row8 m) true)] 1).h.get 0 = some (.cells (row8 m) true)), BackO.row hc⟩⟩, fun j x hj ho => (hn hj).elim⟩)
theorem blobAt {l : List Nat} (h0 : l ≠ []) (hb : l.length ≤ 65535) : AtS Try.prog 41 [.slice (some (0, 0)) l.length (.atl l.length)] (mkSt [(0, .cells (l.map cellU) false)] 1)
    (.slice (some (2, 0)) (2 + l.length) (.rest 1), mkSt [(0, .cells (l.map cellU) false), (1, .cells (row2 l.length) true), (2, .cells (row2 l.length ++ l.map cellU) true)] 3) := by
  have hn : 0 < l.length := List.length_pos_iff.2 h0
  have c : Call1 Try.prog 81 [.int .u64 (.ofNat l.length), .int .i64 2] (mkSt [(0, .cells (l.map cellU) false)] 1) (.slice (some (1, 0)) 2 (.known 2), mkSt [(0, .cells (l.map cellU) false), (1, .cells (row2 l.length) true)] 2) :=
    Eq.mp (congrArg (Call1 Try.prog 81 [.int .u64 (.ofNat l.length), .int .i64 2] (mkSt [(0, .cells (l.map cellU) false)] 1)) (by kernel_rfl)) (num2_any (m := l.length) (by omega) (mkSt [(0, .cells (l.map cellU) false)] 1))
  refine run_of_tm EBok (onlyC_ok (fs := [81]) (tabC_ok (tab := [(81, [.int .u64 (.ofNat l.length), .int .i64 2], mkSt [(0, .cells (l.map cellU) false)] 1, (.slice (some (1, 0)) 2 (.known 2), mkSt [(0, .cells (l.map cellU) false), (1, .cells (row2 l.length) true)] 2))]) fun e he => by simp at he; subst he; exact c))
    (Eq.mp (vcB _ l.length (.slice (some (0, 0)) l.length (.atl l.length)) (.cells (l.map cellU) false) (.cells (row2 l.length) true) (.cells (row2 l.length) true) (.cells (row2 l.length ++ l.map cellU) true) (fun v => v = (.slice (some (2, 0)) (2 + l.length) (.rest 1), mkSt [(0, .cells (l.map cellU) false), (1, .cells (row2 l.length) true), (2, .cells (row2 l.length ++ l.map cellU) true)] 3)))
      ⟨(SlArg.row sl25 (cs := l.map cellU)).len _, ?_, ?_, rfl⟩)
  · rw [wrapU64' (by omega)]
    exact call_at (onlyC_at rfl (tabC_hd ..))
  · exact (append_full_at (l := 2) (new := l.map cellU) (old := row2 l.length) ap25 (n := l.length) (by kernel_rfl) (first_at (cs := l.map cellU) (rw := false) (by kernel_rfl) (by rw [Nat.mul_one]; exact takeU)) (by kernel_rfl) hn (by omega) (by omega)).trans (by kernel_rfl)
end Go.Proofs.Ytlnohbilfogheaa.rnu
end

section
open Go Go.Ax Go.Proofs.Ytlnohbilfogheaa
namespace Go.Proofs.Ytlnohbilfogheaa.rpk
open Go.Proofs.Ytlnohbilfogheaa.rnu (fl0)
set_option linter.unusedVariables false
noncomputable def fnsK : List (Nat × Func) := [(70, Try.f70), (81, Try.f81), (41, Try.f41), (95, Try.f95)]
noncomputable def EK : Env := envEx Try.prog [0, 3, 4, 5, 25, 28, 61, 63, 104] fnsK []
noncomputable def smK (q : CallT) : CallT := onlyC [81, 41, 95] q
noncomputable def flsK : List (Nat × Fl) := [(70, ⟨[12, 13, 16, 17, 20, 24, 29, 30, 33, 37, 38, 41, 42, 44, 55], [], [], []⟩)]
noncomputable def flsL : List (Nat × Fl) := [(70, ⟨[12, 13, 16, 17, 29, 30, 37, 38, 41, 42, 44, 55], [], [], []⟩)]
noncomputable def pP (k m t a s : Int) (v : AV) : AO := .cells [.int .i64 k, .int .u64 m, .int .u64 t, .int .u64 a, .int .u64 s, v] true
noncomputable def gp (k : Int) : AO := .cells [.int .u8 71, .int .u8 80, .int .u8 (wrapF .u8 k)] true
noncomputable def rowH (hs : Nat → Int) : List AV := (List.range 32).map fun i => .int .u8 (hs i)
noncomputable def tK (q : CallT) (k m t a s : Int) (v : AV) (R : AO) (hs : Nat → Int) (r1 r2 r3 r4 r5 : List AV) : Tr (AV × ASt) := (TM EK (smK q) flsK fl0 60).call 70 [.agg [.int .i64 k, .int .u64 m, .int .u64 t, .int .u64 a, .int .u64 s, v]] (mkSt [(0, R)] 1)
noncomputable def tA (q : CallT) (m t a s : Int) (v : AV) (R : AO) (hs : Nat → Int) (r1 r2 r3 r4 r5 r6 r7 : List AV) : Tr (AV × ASt) := (TM EK (smK q) flsL fl0 60).call 70 [.agg [.int .i64 (.ofNat 3), .int .u64 m, .int .u64 t, .int .u64 a, .int .u64 s, v]] (mkSt [(0, R)] 1)
noncomputable def tD (q : CallT) (n : Nat) (m t a s : Int) (R : AO) (hs : Nat → Int) (r1 r2 r3 r4 r5 r6 r7 r8 r9 r10 r11 : List AV) : Tr (AV × ASt) := (TM EK (smK q) flsL fl0 60).call 70 [.agg [.int .i64 (.ofNat 2), .int .u64 m, .int .u64 t, .int .u64 a, .int .u64 s, .slice (some (0, 0)) n (.atl n)]] (mkSt [(0, R)] 1)
noncomputable def vcK_s0 (k m t a s : Int) (v : AV) (R : AO) : ASt := mkSt [(0, R), (1, .cells [.int .i64 k, .int .u64 m, .int .u64 t, .int .u64 a, .int .u64 s, v] true), (2, .cells [.int .u8 (.ofNat 71), .int .u8 (.ofNat 80), .int .u8 (wrapF .u8 k)] true)] 13
noncomputable def vcK_s1 (k m t a s : Int) (v : AV) (R : AO) (r1 : List AV) : ASt := mkSt [(0, R), (1, .cells [.int .i64 k, .int .u64 m, .int .u64 t, .int .u64 a, .int .u64 s, v] true), (2, .cells [.int .u8 (.ofNat 71), .int .u8 (.ofNat 80), .int .u8 (wrapF .u8 k)] true), (13, .cells r1 true)] 14
noncomputable def vcK_s2 (k m t a s : Int) (v : AV) (R : AO) (r1 r2 : List AV) : ASt := mkSt [(0, R), (1, .cells [.int .i64 k, .int .u64 m, .int .u64 t, .int .u64 a, .int .u64 s, v] true), (2, .cells [.int .u8 (.ofNat 71), .int .u8 (.ofNat 80), .int .u8 (wrapF .u8 k)] true), (13, .cells r1 true), (14, .cells r2 true)] 15
noncomputable def vcK_s3 (k m t a s : Int) (v : AV) (R : AO) (r1 r2 r3 : List AV) : ASt := mkSt [(0, R), (1, .cells [.int .i64 k, .int .u64 m, .int .u64 t, .int .u64 a, .int .u64 s, v] true), (2, .cells [.int .u8 (.ofNat 71), .int .u8 (.ofNat 80), .int .u8 (wrapF .u8 k)] true), (13, .cells r1 true), (14, .cells r2 true), (15, .cells r3 true)] 16
noncomputable def vcK_s4 (k m t a s : Int) (v : AV) (R : AO) (r1 r3 r4 : List AV) : ASt := mkSt [(0, R), (1, .cells [.int .i64 k, .int .u64 m, .int .u64 t, .int .u64 a, .int .u64 s, v] true), (2, .cells [.int .u8 (.ofNat 71), .int .u8 (.ofNat 80), .int .u8 (wrapF .u8 k)] true), (13, .cells r1 true), (14, .dead), (15, .cells r3 true), (16, .cells r4 true)] 17
noncomputable def vcK_s5 (k m t a s : Int) (v : AV) (R : AO) (hs : Nat → Int) (r1 r3 r4 : List AV) : ASt := mkSt [(0, R), (1, .cells [.int .i64 k, .int .u64 m, .int .u64 t, .int .u64 a, .int .u64 s, v] true), (2, .cells [.int .u8 (.ofNat 71), .int .u8 (.ofNat 80), .int .u8 (wrapF .u8 k)] true), (13, .cells r1 true), (14, .dead), (15, .cells r3 true), (16, .cells r4 true), (17, .cells [.int .u8 (hs 0), .int .u8 (hs 1), .int .u8 (hs 2), .int .u8 (hs 3), .int .u8 (hs 4), .int .u8 (hs 5), .int .u8 (hs 6), .int .u8 (hs 7), .int .u8 (hs 8), .int .u8 (hs 9), .int .u8 (hs 10), .int .u8 (hs 11), .int .u8 (hs 12), .int .u8 (hs 13), .int .u8 (hs 14), .int .u8 (hs 15), .int .u8 (hs 16), .int .u8 (hs 17), .int .u8 (hs 18), .int .u8 (hs 19), .int .u8 (hs 20), .int .u8 (hs 21), .int .u8 (hs 22), .int .u8 (hs 23), .int .u8 (hs 24), .int .u8 (hs 25), .int .u8 (hs 26), .int .u8 (hs 27), .int .u8 (hs 28), .int .u8 (hs 29), .int .u8 (hs 30), .int .u8 (hs 31)] true), (18, .cells [.int .u8 (hs 0), .int .u8 (hs 1), .int .u8 (hs 2), .int .u8 (hs 3)] true)] 19
noncomputable def vcK_s6 (k m t a s : Int) (v : AV) (R : AO) (hs : Nat → Int) (r1 r3 r5 : List AV) : ASt := mkSt [(0, R), (1, .cells [.int .i64 k, .int .u64 m, .int .u64 t, .int .u64 a, .int .u64 s, v] true), (2, .cells [.int .u8 (.ofNat 71), .int .u8 (.ofNat 80), .int .u8 (wrapF .u8 k)] true), (13, .cells r1 true), (14, .dead), (15, .cells r3 true), (16, .dead), (17, .cells [.int .u8 (hs 0), .int .u8 (hs 1), .int .u8 (hs 2), .int .u8 (hs 3), .int .u8 (hs 4), .int .u8 (hs 5), .int .u8 (hs 6), .int .u8 (hs 7), .int .u8 (hs 8), .int .u8 (hs 9), .int .u8 (hs 10), .int .u8 (hs 11), .int .u8 (hs 12), .int .u8 (hs 13), .int .u8 (hs 14), .int .u8 (hs 15), .int .u8 (hs 16), .int .u8 (hs 17), .int .u8 (hs 18), .int .u8 (hs 19), .int .u8 (hs 20), .int .u8 (hs 21), .int .u8 (hs 22), .int .u8 (hs 23), .int .u8 (hs 24), .int .u8 (hs 25), .int .u8 (hs 26), .int .u8 (hs 27), .int .u8 (hs 28), .int .u8 (hs 29), .int .u8 (hs 30), .int .u8 (hs 31)] true), (18, .cells [.int .u8 (hs 0), .int .u8 (hs 1), .int .u8 (hs 2), .int .u8 (hs 3)] true), (19, .cells r5 true)] 20
noncomputable def vcK_s7 (R : AO) (r5 : List AV) : ASt := mkSt [(0, R), (19, .cells r5 true)] 20
theorem vcK (q : CallT) (k m t a s : Int) (v : AV) (R : AO) (hs : Nat → Int) (r1 r2 r3 r4 r5 : List AV) (Q : AV × ASt → Prop) :
  ((M EK (drawA EK) (smK q) 55).call 81 [.int .u64 m, .int .i64 (.ofNat 8)] (vcK_s0 k m t a s v R) = some (.slice (some (13, 0)) 8 (.known 8), vcK_s1 k m t a s v R r1) ∧ aBuiltinM EK .append [25, 25] [.slice (some (2, 0)) 3 (.known 3), .slice (some (13, 0)) 8 (.known 8)] (vcK_s1 k m t a s v R r1) = some (.slice (some (14, 0)) 11 (.rest 1), vcK_s2 k m t a s v R r1 r2) ∧ (M EK (drawA EK) (smK q) 55).call 81 [.int .u64 t, .int .i64 (.ofNat 8)] (vcK_s2 k m t a s v R r1 r2) = some (.slice (some (15, 0)) 8 (.known 8), vcK_s3 k m t a s v R r1 r2 r3) ∧ aBuiltinM EK .append [25, 25] [.slice (some (14, 0)) 11 (.rest 1), .slice (some (15, 0)) 8 (.known 8)] (vcK_s3 k m t a s v R r1 r2 r3) = some (.slice (some (16, 0)) 19 (.rest 1), vcK_s4 k m t a s v R r1 r3 r4) ∧ holdsO [(some (.int .u64 t), .int .u64 t), (some (.int .u64 t), .int .u64 t)] ∧ still (vcK_s4 k m t a s v R r1 r3 r4) (aBin EK .eql 61 (.tmp 19) (.const (.int .i64 2)) (.int .i64 k) (.int .i64 (.ofNat 2))) = some (.bool false, vcK_s4 k m t a s v R r1 r3 r4) ∧ still (vcK_s4 k m t a s v R r1 r3 r4) (aBin EK .eql 61 (.tmp 23) (.const (.int .i64 3)) (.int .i64 k) (.int .i64 (.ofNat 3))) = some (.bool false, vcK_s4 k m t a s v R r1 r3 r4) ∧ still (vcK_s4 k m t a s v R r1 r3 r4) (aBin EK .eql 61 (.tmp 32) (.const (.int .i64 2)) (.int .i64 k) (.int .i64 (.ofNat 2))) = some (.bool false, vcK_s4 k m t a s v R r1 r3 r4) ∧ (M EK (drawA EK) (smK q) 52).call 95 [.slice (some (16, 0)) 19 (.rest 1)] (vcK_s4 k m t a s v R r1 r3 r4) = some (.agg [.int .u8 (hs 0), .int .u8 (hs 1), .int .u8 (hs 2), .int .u8 (hs 3), .int .u8 (hs 4), .int .u8 (hs 5), .int .u8 (hs 6), .int .u8 (hs 7), .int .u8 (hs 8), .int .u8 (hs 9), .int .u8 (hs 10), .int .u8 (hs 11), .int .u8 (hs 12), .int .u8 (hs 13), .int .u8 (hs 14), .int .u8 (hs 15), .int .u8 (hs 16), .int .u8 (hs 17), .int .u8 (hs 18), .int .u8 (hs 19), .int .u8 (hs 20), .int .u8 (hs 21), .int .u8 (hs 22), .int .u8 (hs 23), .int .u8 (hs 24), .int .u8 (hs 25), .int .u8 (hs 26), .int .u8 (hs 27), .int .u8 (hs 28), .int .u8 (hs 29), .int .u8 (hs 30), .int .u8 (hs 31)], vcK_s4 k m t a s v R r1 r3 r4) ∧ aBuiltinM EK .append [25, 25] [.slice (some (16, 0)) 19 (.rest 1), .slice (some (18, 0)) 4 (.known 4)] (vcK_s5 k m t a s v R hs r1 r3 r4) = some (.slice (some (19, 0)) 23 (.rest 1), vcK_s6 k m t a s v R hs r1 r3 r5) ∧ Q (.slice (some (19, 0)) 23 (.rest 1), vcK_s7 R r5)) =
  (tK q k m t a s v R hs r1 r2 r3 r4 r5).allY (fun r => Q (r.1, canS [0, 19] r.2)) (.v (.slice (some (13, 0)) 8 (.known 8), vcK_s1 k m t a s v R r1) (.v (.slice (some (14, 0)) 11 (.rest 1), vcK_s2 k m t a s v R r1 r2) (.v (.slice (some (15, 0)) 8 (.known 8), vcK_s3 k m t a s v R r1 r2 r3) (.v (.slice (some (16, 0)) 19 (.rest 1), vcK_s4 k m t a s v R r1 r3 r4) (.v (.bool false, vcK_s4 k m t a s v R r1 r3 r4) (.v (.bool false, vcK_s4 k m t a s v R r1 r3 r4) (.v (.bool false, vcK_s4 k m t a s v R r1 r3 r4) (.v (.agg [.int .u8 (hs 0), .int .u8 (hs 1), .int .u8 (hs 2), .int .u8 (hs 3), .int .u8 (hs 4), .int .u8 (hs 5), .int .u8 (hs 6), .int .u8 (hs 7), .int .u8 (hs 8), .int .u8 (hs 9), .int .u8 (hs 10), .int .u8 (hs 11), .int .u8 (hs 12), .int .u8 (hs 13), .int .u8 (hs 14), .int .u8 (hs 15), .int .u8 (hs 16), .int .u8 (hs 17), .int .u8 (hs 18), .int .u8 (hs 19), .int .u8 (hs 20), .int .u8 (hs 21), .int .u8 (hs 22), .int .u8 (hs 23), .int .u8 (hs 24), .int .u8 (hs 25), .int .u8 (hs 26), .int .u8 (hs 27), .int .u8 (hs 28), .int .u8 (hs 29), .int .u8 (hs 30), .int .u8 (hs 31)], vcK_s4 k m t a s v R r1 r3 r4) (.v (.slice (some (19, 0)) 23 (.rest 1), vcK_s6 k m t a s v R hs r1 r3 r5) .nil))))))))) := by kernel_rfl
noncomputable def vcA_s0 (m t a s : Int) (v : AV) (R : AO) : ASt := mkSt [(0, R), (1, .cells [.int .i64 (.ofNat 3), .int .u64 m, .int .u64 t, .int .u64 a, .int .u64 s, v] true), (2, .cells [.int .u8 (.ofNat 71), .int .u8 (.ofNat 80), .int .u8 (.ofNat 3)] true)] 13
noncomputable def vcA_s1 (m t a s : Int) (v : AV) (R : AO) (r1 : List AV) : ASt := mkSt [(0, R), (1, .cells [.int .i64 (.ofNat 3), .int .u64 m, .int .u64 t, .int .u64 a, .int .u64 s, v] true), (2, .cells [.int .u8 (.ofNat 71), .int .u8 (.ofNat 80), .int .u8 (.ofNat 3)] true), (13, .cells r1 true)] 14
noncomputable def vcA_s2 (m t a s : Int) (v : AV) (R : AO) (r1 r2 : List AV) : ASt := mkSt [(0, R), (1, .cells [.int .i64 (.ofNat 3), .int .u64 m, .int .u64 t, .int .u64 a, .int .u64 s, v] true), (2, .cells [.int .u8 (.ofNat 71), .int .u8 (.ofNat 80), .int .u8 (.ofNat 3)] true), (13, .cells r1 true), (14, .cells r2 true)] 15
noncomputable def vcA_s3 (m t a s : Int) (v : AV) (R : AO) (r1 r2 r3 : List AV) : ASt := mkSt [(0, R), (1, .cells [.int .i64 (.ofNat 3), .int .u64 m, .int .u64 t, .int .u64 a, .int .u64 s, v] true), (2, .cells [.int .u8 (.ofNat 71), .int .u8 (.ofNat 80), .int .u8 (.ofNat 3)] true), (13, .cells r1 true), (14, .cells r2 true), (15, .cells r3 true)] 16
noncomputable def vcA_s4 (m t a s : Int) (v : AV) (R : AO) (r1 r3 r4 : List AV) : ASt := mkSt [(0, R), (1, .cells [.int .i64 (.ofNat 3), .int .u64 m, .int .u64 t, .int .u64 a, .int .u64 s, v] true), (2, .cells [.int .u8 (.ofNat 71), .int .u8 (.ofNat 80), .int .u8 (.ofNat 3)] true), (13, .cells r1 true), (14, .dead), (15, .cells r3 true), (16, .cells r4 true)] 17
noncomputable def vcA_s5 (m t a s : Int) (v : AV) (R : AO) (r1 r3 r4 r5 : List AV) : ASt := mkSt [(0, R), (1, .cells [.int .i64 (.ofNat 3), .int .u64 m, .int .u64 t, .int .u64 a, .int .u64 s, v] true), (2, .cells [.int .u8 (.ofNat 71), .int .u8 (.ofNat 80), .int .u8 (.ofNat 3)] true), (13, .cells r1 true), (14, .dead), (15, .cells r3 true), (16, .cells r4 true), (17, .cells r5 true)] 18
noncomputable def vcA_s6 (m t a s : Int) (v : AV) (R : AO) (r1 r3 r5 r6 : List AV) : ASt := mkSt [(0, R), (1, .cells [.int .i64 (.ofNat 3), .int .u64 m, .int .u64 t, .int .u64 a, .int .u64 s, v] true), (2, .cells [.int .u8 (.ofNat 71), .int .u8 (.ofNat 80), .int .u8 (.ofNat 3)] true), (13, .cells r1 true), (14, .dead), (15, .cells r3 true), (16, .dead), (17, .cells r5 true), (18, .cells r6 true)] 19
noncomputable def vcA_s7 (m t a s : Int) (v : AV) (R : AO) (hs : Nat → Int) (r1 r3 r5 r6 : List AV) : ASt := mkSt [(0, R), (1, .cells [.int .i64 (.ofNat 3), .int .u64 m, .int .u64 t, .int .u64 a, .int .u64 s, v] true), (2, .cells [.int .u8 (.ofNat 71), .int .u8 (.ofNat 80), .int .u8 (.ofNat 3)] true), (13, .cells r1 true), (14, .dead), (15, .cells r3 true), (16, .dead), (17, .cells r5 true), (18, .cells r6 true), (19, .cells [.int .u8 (hs 0), .int .u8 (hs 1), .int .u8 (hs 2), .int .u8 (hs 3), .int .u8 (hs 4), .int .u8 (hs 5), .int .u8 (hs 6), .int .u8 (hs 7), .int .u8 (hs 8), .int .u8 (hs 9), .int .u8 (hs 10), .int .u8 (hs 11), .int .u8 (hs 12), .int .u8 (hs 13), .int .u8 (hs 14), .int .u8 (hs 15), .int .u8 (hs 16), .int .u8 (hs 17), .int .u8 (hs 18), .int .u8 (hs 19), .int .u8 (hs 20), .int .u8 (hs 21), .int .u8 (hs 22), .int .u8 (hs 23), .int .u8 (hs 24), .int .u8 (hs 25), .int .u8 (hs 26), .int .u8 (hs 27), .int .u8 (hs 28), .int .u8 (hs 29), .int .u8 (hs 30), .int .u8 (hs 31)] true), (20, .cells [.int .u8 (hs 0), .int .u8 (hs 1), .int .u8 (hs 2), .int .u8 (hs 3)] true)] 21
noncomputable def vcA_s8 (m t a s : Int) (v : AV) (R : AO) (hs : Nat → Int) (r1 r3 r5 r7 : List AV) : ASt := mkSt [(0, R), (1, .cells [.int .i64 (.ofNat 3), .int .u64 m, .int .u64 t, .int .u64 a, .int .u64 s, v] true), (2, .cells [.int .u8 (.ofNat 71), .int .u8 (.ofNat 80), .int .u8 (.ofNat 3)] true), (13, .cells r1 true), (14, .dead), (15, .cells r3 true), (16, .dead), (17, .cells r5 true), (18, .dead), (19, .cells [.int .u8 (hs 0), .int .u8 (hs 1), .int .u8 (hs 2), .int .u8 (hs 3), .int .u8 (hs 4), .int .u8 (hs 5), .int .u8 (hs 6), .int .u8 (hs 7), .int .u8 (hs 8), .int .u8 (hs 9), .int .u8 (hs 10), .int .u8 (hs 11), .int .u8 (hs 12), .int .u8 (hs 13), .int .u8 (hs 14), .int .u8 (hs 15), .int .u8 (hs 16), .int .u8 (hs 17), .int .u8 (hs 18), .int .u8 (hs 19), .int .u8 (hs 20), .int .u8 (hs 21), .int .u8 (hs 22), .int .u8 (hs 23), .int .u8 (hs 24), .int .u8 (hs 25), .int .u8 (hs 26), .int .u8 (hs 27), .int .u8 (hs 28), .int .u8 (hs 29), .int .u8 (hs 30), .int .u8 (hs 31)] true), (20, .cells [.int .u8 (hs 0), .int .u8 (hs 1), .int .u8 (hs 2), .int .u8 (hs 3)] true), (21, .cells r7 true)] 22
noncomputable def vcA_s9 (R : AO) (r7 : List AV) : ASt := mkSt [(0, R), (21, .cells r7 true)] 22
theorem vcA (q : CallT) (m t a s : Int) (v : AV) (R : AO) (hs : Nat → Int) (r1 r2 r3 r4 r5 r6 r7 : List AV) (Q : AV × ASt → Prop) :
  ((M EK (drawA EK) (smK q) 55).call 81 [.int .u64 m, .int .i64 (.ofNat 8)] (vcA_s0 m t a s v R) = some (.slice (some (13, 0)) 8 (.known 8), vcA_s1 m t a s v R r1) ∧ aBuiltinM EK .append [25, 25] [.slice (some (2, 0)) 3 (.known 3), .slice (some (13, 0)) 8 (.known 8)] (vcA_s1 m t a s v R r1) = some (.slice (some (14, 0)) 11 (.rest 1), vcA_s2 m t a s v R r1 r2) ∧ (M EK (drawA EK) (smK q) 55).call 81 [.int .u64 t, .int .i64 (.ofNat 8)] (vcA_s2 m t a s v R r1 r2) = some (.slice (some (15, 0)) 8 (.known 8), vcA_s3 m t a s v R r1 r2 r3) ∧ aBuiltinM EK .append [25, 25] [.slice (some (14, 0)) 11 (.rest 1), .slice (some (15, 0)) 8 (.known 8)] (vcA_s3 m t a s v R r1 r2 r3) = some (.slice (some (16, 0)) 19 (.rest 1), vcA_s4 m t a s v R r1 r3 r4) ∧ holdsO [(some (.int .u64 t), .int .u64 t), (some (.int .u64 t), .int .u64 t)] ∧ (M EK (drawA EK) (smK q) 52).call 81 [.int .u64 a, .int .i64 (.ofNat 8)] (vcA_s4 m t a s v R r1 r3 r4) = some (.slice (some (17, 0)) 8 (.known 8), vcA_s5 m t a s v R r1 r3 r4 r5) ∧ aBuiltinM EK .append [25, 25] [.slice (some (16, 0)) 19 (.rest 1), .slice (some (17, 0)) 8 (.known 8)] (vcA_s5 m t a s v R r1 r3 r4 r5) = some (.slice (some (18, 0)) 27 (.rest 1), vcA_s6 m t a s v R r1 r3 r5 r6) ∧ (M EK (drawA EK) (smK q) 52).call 95 [.slice (some (18, 0)) 27 (.rest 1)] (vcA_s6 m t a s v R r1 r3 r5 r6) = some (.agg [.int .u8 (hs 0), .int .u8 (hs 1), .int .u8 (hs 2), .int .u8 (hs 3), .int .u8 (hs 4), .int .u8 (hs 5), .int .u8 (hs 6), .int .u8 (hs 7), .int .u8 (hs 8), .int .u8 (hs 9), .int .u8 (hs 10), .int .u8 (hs 11), .int .u8 (hs 12), .int .u8 (hs 13), .int .u8 (hs 14), .int .u8 (hs 15), .int .u8 (hs 16), .int .u8 (hs 17), .int .u8 (hs 18), .int .u8 (hs 19), .int .u8 (hs 20), .int .u8 (hs 21), .int .u8 (hs 22), .int .u8 (hs 23), .int .u8 (hs 24), .int .u8 (hs 25), .int .u8 (hs 26), .int .u8 (hs 27), .int .u8 (hs 28), .int .u8 (hs 29), .int .u8 (hs 30), .int .u8 (hs 31)], vcA_s6 m t a s v R r1 r3 r5 r6) ∧ aBuiltinM EK .append [25, 25] [.slice (some (18, 0)) 27 (.rest 1), .slice (some (20, 0)) 4 (.known 4)] (vcA_s7 m t a s v R hs r1 r3 r5 r6) = some (.slice (some (21, 0)) 31 (.rest 1), vcA_s8 m t a s v R hs r1 r3 r5 r7) ∧ Q (.slice (some (21, 0)) 31 (.rest 1), vcA_s9 R r7)) =
  (tA q m t a s v R hs r1 r2 r3 r4 r5 r6 r7).allY (fun r => Q (r.1, canS [0, 21] r.2)) (.v (.slice (some (13, 0)) 8 (.known 8), vcA_s1 m t a s v R r1) (.v (.slice (some (14, 0)) 11 (.rest 1), vcA_s2 m t a s v R r1 r2) (.v (.slice (some (15, 0)) 8 (.known 8), vcA_s3 m t a s v R r1 r2 r3) (.v (.slice (some (16, 0)) 19 (.rest 1), vcA_s4 m t a s v R r1 r3 r4) (.v (.slice (some (17, 0)) 8 (.known 8), vcA_s5 m t a s v R r1 r3 r4 r5) (.v (.slice (some (18, 0)) 27 (.rest 1), vcA_s6 m t a s v R r1 r3 r5 r6) (.v (.agg [.int .u8 (hs 0), .int .u8 (hs 1), .int .u8 (hs 2), .int .u8 (hs 3), .int .u8 (hs 4), .int .u8 (hs 5), .int .u8 (hs 6), .int .u8 (hs 7), .int .u8 (hs 8), .int .u8 (hs 9), .int .u8 (hs 10), .int .u8 (hs 11), .int .u8 (hs 12), .int .u8 (hs 13), .int .u8 (hs 14), .int .u8 (hs 15), .int .u8 (hs 16), .int .u8 (hs 17), .int .u8 (hs 18), .int .u8 (hs 19), .int .u8 (hs 20), .int .u8 (hs 21), .int .u8 (hs 22), .int .u8 (hs 23), .int .u8 (hs 24), .int .u8 (hs 25), .int .u8 (hs 26), .int .u8 (hs 27), .int .u8 (hs 28), .int .u8 (hs 29), .int .u8 (hs 30), .int .u8 (hs 31)], vcA_s6 m t a s v R r1 r3 r5 r6) (.v (.slice (some (21, 0)) 31 (.rest 1), vcA_s8 m t a s v R hs r1 r3 r5 r7) .nil)))))))) := by kernel_rfl
noncomputable def vcD_s0 (n : Nat) (m t a s : Int) (R : AO) : ASt := mkSt [(0, R), (1, .cells [.int .i64 (.ofNat 2), .int .u64 m, .int .u64 t, .int .u64 a, .int .u64 s, .slice (some (0, 0)) n (.atl n)] true), (2, .cells [.int .u8 (.ofNat 71), .int .u8 (.ofNat 80), .int .u8 (.ofNat 2)] true)] 13
noncomputable def vcD_s1 (n : Nat) (m t a s : Int) (R : AO) (r1 : List AV) : ASt := mkSt [(0, R), (1, .cells [.int .i64 (.ofNat 2), .int .u64 m, .int .u64 t, .int .u64 a, .int .u64 s, .slice (some (0, 0)) n (.atl n)] true), (2, .cells [.int .u8 (.ofNat 71), .int .u8 (.ofNat 80), .int .u8 (.ofNat 2)] true), (13, .cells r1 true)] 14
noncomputable def vcD_s2 (n : Nat) (m t a s : Int) (R : AO) (r1 r2 : List AV) : ASt := mkSt [(0, R), (1, .cells [.int .i64 (.ofNat 2), .int .u64 m, .int .u64 t, .int .u64 a, .int .u64 s, .slice (some (0, 0)) n (.atl n)] true), (2, .cells [.int .u8 (.ofNat 71), .int .u8 (.ofNat 80), .int .u8 (.ofNat 2)] true), (13, .cells r1 true), (14, .cells r2 true)] 15
noncomputable def vcD_s3 (n : Nat) (m t a s : Int) (R : AO) (r1 r2 r3 : List AV) : ASt := mkSt [(0, R), (1, .cells [.int .i64 (.ofNat 2), .int .u64 m, .int .u64 t, .int .u64 a, .int .u64 s, .slice (some (0, 0)) n (.atl n)] true), (2, .cells [.int .u8 (.ofNat 71), .int .u8 (.ofNat 80), .int .u8 (.ofNat 2)] true), (13, .cells r1 true), (14, .cells r2 true), (15, .cells r3 true)] 16
noncomputable def vcD_s4 (n : Nat) (m t a s : Int) (R : AO) (r1 r3 r4 : List AV) : ASt := mkSt [(0, R), (1, .cells [.int .i64 (.ofNat 2), .int .u64 m, .int .u64 t, .int .u64 a, .int .u64 s, .slice (some (0, 0)) n (.atl n)] true), (2, .cells [.int .u8 (.ofNat 71), .int .u8 (.ofNat 80), .int .u8 (.ofNat 2)] true), (13, .cells r1 true), (14, .dead), (15, .cells r3 true), (16, .cells r4 true)] 17
noncomputable def vcD_s5 (n : Nat) (m t a s : Int) (R : AO) (r1 r3 r4 r5 : List AV) : ASt := mkSt [(0, R), (1, .cells [.int .i64 (.ofNat 2), .int .u64 m, .int .u64 t, .int .u64 a, .int .u64 s, .slice (some (0, 0)) n (.atl n)] true), (2, .cells [.int .u8 (.ofNat 71), .int .u8 (.ofNat 80), .int .u8 (.ofNat 2)] true), (13, .cells r1 true), (14, .dead), (15, .cells r3 true), (16, .cells r4 true), (17, .cells r5 true)] 18
noncomputable def vcD_s6 (n : Nat) (m t a s : Int) (R : AO) (r1 r3 r5 r6 : List AV) : ASt := mkSt [(0, R), (1, .cells [.int .i64 (.ofNat 2), .int .u64 m, .int .u64 t, .int .u64 a, .int .u64 s, .slice (some (0, 0)) n (.atl n)] true), (2, .cells [.int .u8 (.ofNat 71), .int .u8 (.ofNat 80), .int .u8 (.ofNat 2)] true), (13, .cells r1 true), (14, .dead), (15, .cells r3 true), (16, .dead), (17, .cells r5 true), (18, .cells r6 true)] 19
noncomputable def vcD_s7 (n : Nat) (m t a s : Int) (R : AO) (r1 r3 r5 r6 : List AV) : ASt := mkSt [(0, R), (1, .cells [.int .i64 (.ofNat 2), .int .u64 m, .int .u64 t, .int .u64 a, .int .u64 s, .slice (some (0, 0)) n (.atl n)] true), (2, .cells [.int .u8 (.ofNat 71), .int .u8 (.ofNat 80), .int .u8 (.ofNat 2)] true), (13, .cells r1 true), (14, .dead), (15, .cells r3 true), (16, .dead), (17, .cells r5 true), (18, .cells r6 true)] 29
noncomputable def vcD_s8 (n : Nat) (m t a s : Int) (R : AO) (r1 r3 r5 r6 r7 : List AV) : ASt := mkSt [(0, R), (1, .cells [.int .i64 (.ofNat 2), .int .u64 m, .int .u64 t, .int .u64 a, .int .u64 s, .slice (some (0, 0)) n (.atl n)] true), (2, .cells [.int .u8 (.ofNat 71), .int .u8 (.ofNat 80), .int .u8 (.ofNat 2)] true), (13, .cells r1 true), (14, .dead), (15, .cells r3 true), (16, .dead), (17, .cells r5 true), (18, .cells r6 true), (29, .cells r7 true)] 30
noncomputable def vcD_s9 (n : Nat) (m t a s : Int) (R : AO) (r1 r3 r5 r7 r8 : List AV) : ASt := mkSt [(0, R), (1, .cells [.int .i64 (.ofNat 2), .int .u64 m, .int .u64 t, .int .u64 a, .int .u64 s, .slice (some (0, 0)) n (.atl n)] true), (2, .cells [.int .u8 (.ofNat 71), .int .u8 (.ofNat 80), .int .u8 (.ofNat 2)] true), (13, .cells r1 true), (14, .dead), (15, .cells r3 true), (16, .dead), (17, .cells r5 true), (18, .dead), (29, .cells r7 true), (30, .cells r8 true)] 31
noncomputable def vcD_s10 (n : Nat) (m t a s : Int) (R : AO) (r1 r3 r5 r7 r8 r9 : List AV) : ASt := mkSt [(0, R), (1, .cells [.int .i64 (.ofNat 2), .int .u64 m, .int .u64 t, .int .u64 a, .int .u64 s, .slice (some (0, 0)) n (.atl n)] true), (2, .cells [.int .u8 (.ofNat 71), .int .u8 (.ofNat 80), .int .u8 (.ofNat 2)] true), (13, .cells r1 true), (14, .dead), (15, .cells r3 true), (16, .dead), (17, .cells r5 true), (18, .dead), (29, .cells r7 true), (30, .cells r8 true), (33, .cells r9 true)] 34
noncomputable def vcD_s11 (n : Nat) (m t a s : Int) (R : AO) (r1 r3 r5 r7 r9 r10 : List AV) : ASt := mkSt [(0, R), (1, .cells [.int .i64 (.ofNat 2), .int .u64 m, .int .u64 t, .int .u64 a, .int .u64 s, .slice (some (0, 0)) n (.atl n)] true), (2, .cells [.int .u8 (.ofNat 71), .int .u8 (.ofNat 80), .int .u8 (.ofNat 2)] true), (13, .cells r1 true), (14, .dead), (15, .cells r3 true), (16, .dead), (17, .cells r5 true), (18, .dead), (29, .cells r7 true), (30, .dead), (33, .cells r9 true), (34, .cells r10 true)] 35
noncomputable def vcD_s12 (n : Nat) (m t a s : Int) (R : AO) (hs : Nat → Int) (r1 r3 r5 r7 r9 r10 : List AV) : ASt := mkSt [(0, R), (1, .cells [.int .i64 (.ofNat 2), .int .u64 m, .int .u64 t, .int .u64 a, .int .u64 s, .slice (some (0, 0)) n (.atl n)] true), (2, .cells [.int .u8 (.ofNat 71), .int .u8 (.ofNat 80), .int .u8 (.ofNat 2)] true), (13, .cells r1 true), (14, .dead), (15, .cells r3 true), (16, .dead), (17, .cells r5 true), (18, .dead), (29, .cells r7 true), (30, .dead), (33, .cells r9 true), (34, .cells r10 true), (35, .cells [.int .u8 (hs 0), .int .u8 (hs 1), .int .u8 (hs 2), .int .u8 (hs 3), .int .u8 (hs 4), .int .u8 (hs 5), .int .u8 (hs 6), .int .u8 (hs 7), .int .u8 (hs 8), .int .u8 (hs 9), .int .u8 (hs 10), .int .u8 (hs 11), .int .u8 (hs 12), .int .u8 (hs 13), .int .u8 (hs 14), .int .u8 (hs 15), .int .u8 (hs 16), .int .u8 (hs 17), .int .u8 (hs 18), .int .u8 (hs 19), .int .u8 (hs 20), .int .u8 (hs 21), .int .u8 (hs 22), .int .u8 (hs 23), .int .u8 (hs 24), .int .u8 (hs 25), .int .u8 (hs 26), .int .u8 (hs 27), .int .u8 (hs 28), .int .u8 (hs 29), .int .u8 (hs 30), .int .u8 (hs 31)] true), (36, .cells [.int .u8 (hs 0), .int .u8 (hs 1), .int .u8 (hs 2), .int .u8 (hs 3)] true)] 37
noncomputable def vcD_s13 (n : Nat) (m t a s : Int) (R : AO) (hs : Nat → Int) (r1 r3 r5 r7 r9 r11 : List AV) : ASt := mkSt [(0, R), (1, .cells [.int .i64 (.ofNat 2), .int .u64 m, .int .u64 t, .int .u64 a, .int .u64 s, .slice (some (0, 0)) n (.atl n)] true), (2, .cells [.int .u8 (.ofNat 71), .int .u8 (.ofNat 80), .int .u8 (.ofNat 2)] true), (13, .cells r1 true), (14, .dead), (15, .cells r3 true), (16, .dead), (17, .cells r5 true), (18, .dead), (29, .cells r7 true), (30, .dead), (33, .cells r9 true), (34, .dead), (35, .cells [.int .u8 (hs 0), .int .u8 (hs 1), .int .u8 (hs 2), .int .u8 (hs 3), .int .u8 (hs 4), .int .u8 (hs 5), .int .u8 (hs 6), .int .u8 (hs 7), .int .u8 (hs 8), .int .u8 (hs 9), .int .u8 (hs 10), .int .u8 (hs 11), .int .u8 (hs 12), .int .u8 (hs 13), .int .u8 (hs 14), .int .u8 (hs 15), .int .u8 (hs 16), .int .u8 (hs 17), .int .u8 (hs 18), .int .u8 (hs 19), .int .u8 (hs 20), .int .u8 (hs 21), .int .u8 (hs 22), .int .u8 (hs 23), .int .u8 (hs 24), .int .u8 (hs 25), .int .u8 (hs 26), .int .u8 (hs 27), .int .u8 (hs 28), .int .u8 (hs 29), .int .u8 (hs 30), .int .u8 (hs 31)] true), (36, .cells [.int .u8 (hs 0), .int .u8 (hs 1), .int .u8 (hs 2), .int .u8 (hs 3)] true), (37, .cells r11 true)] 38
noncomputable def vcD_s14 (R : AO) (r11 : List AV) : ASt := mkSt [(0, R), (37, .cells r11 true)] 38
theorem vcD (q : CallT) (n : Nat) (m t a s : Int) (R : AO) (hs : Nat → Int) (r1 r2 r3 r4 r5 r6 r7 r8 r9 r10 r11 : List AV) (Q : AV × ASt → Prop) :
  ((M EK (drawA EK) (smK q) 55).call 81 [.int .u64 m, .int .i64 (.ofNat 8)] (vcD_s0 n m t a s R) = some (.slice (some (13, 0)) 8 (.known 8), vcD_s1 n m t a s R r1) ∧ aBuiltinM EK .append [25, 25] [.slice (some (2, 0)) 3 (.known 3), .slice (some (13, 0)) 8 (.known 8)] (vcD_s1 n m t a s R r1) = some (.slice (some (14, 0)) 11 (.rest 1), vcD_s2 n m t a s R r1 r2) ∧ (M EK (drawA EK) (smK q) 55).call 81 [.int .u64 t, .int .i64 (.ofNat 8)] (vcD_s2 n m t a s R r1 r2) = some (.slice (some (15, 0)) 8 (.known 8), vcD_s3 n m t a s R r1 r2 r3) ∧ aBuiltinM EK .append [25, 25] [.slice (some (14, 0)) 11 (.rest 1), .slice (some (15, 0)) 8 (.known 8)] (vcD_s3 n m t a s R r1 r2 r3) = some (.slice (some (16, 0)) 19 (.rest 1), vcD_s4 n m t a s R r1 r3 r4) ∧ holdsO [(some (.int .u64 t), .int .u64 t), (some (.int .u64 t), .int .u64 t)] ∧ (M EK (drawA EK) (smK q) 52).call 81 [.int .u64 a, .int .i64 (.ofNat 8)] (vcD_s4 n m t a s R r1 r3 r4) = some (.slice (some (17, 0)) 8 (.known 8), vcD_s5 n m t a s R r1 r3 r4 r5) ∧ aBuiltinM EK .append [25, 25] [.slice (some (16, 0)) 19 (.rest 1), .slice (some (17, 0)) 8 (.known 8)] (vcD_s5 n m t a s R r1 r3 r4 r5) = some (.slice (some (18, 0)) 27 (.rest 1), vcD_s6 n m t a s R r1 r3 r5 r6) ∧ (M EK (drawA EK) (smK q) 51).call 81 [.int .u64 s, .int .i64 (.ofNat 8)] (vcD_s7 n m t a s R r1 r3 r5 r6) = some (.slice (some (29, 0)) 8 (.known 8), vcD_s8 n m t a s R r1 r3 r5 r6 r7) ∧ aBuiltinM EK .append [25, 25] [.slice (some (18, 0)) 27 (.rest 1), .slice (some (29, 0)) 8 (.known 8)] (vcD_s8 n m t a s R r1 r3 r5 r6 r7) = some (.slice (some (30, 0)) 35 (.rest 1), vcD_s9 n m t a s R r1 r3 r5 r7 r8) ∧ (M EK (drawA EK) (smK q) 51).call 41 [.slice (some (0, 0)) n (.atl n)] (vcD_s9 n m t a s R r1 r3 r5 r7 r8) = some (.slice (some (33, 0)) (2 + n) (.rest 1), vcD_s10 n m t a s R r1 r3 r5 r7 r8 r9) ∧ aBuiltinM EK .append [25, 25] [.slice (some (30, 0)) 35 (.rest 1), .slice (some (33, 0)) (2 + n) (.rest 1)] (vcD_s10 n m t a s R r1 r3 r5 r7 r8 r9) = some (.slice (some (34, 0)) (35 + (2 + n)) (.rest 1), vcD_s11 n m t a s R r1 r3 r5 r7 r9 r10) ∧ holdsO [(some (.slice (some (0, 0)) n (.atl n)), .slice (some (0, 0)) n (.atl n)), (some (.slice (some (0, 0)) n (.atl n)), .slice (some (0, 0)) n (.atl n))] ∧ (M EK (drawA EK) (smK q) 52).call 95 [.slice (some (34, 0)) (35 + (2 + n)) (.rest 1)] (vcD_s11 n m t a s R r1 r3 r5 r7 r9 r10) = some (.agg [.int .u8 (hs 0), .int .u8 (hs 1), .int .u8 (hs 2), .int .u8 (hs 3), .int .u8 (hs 4), .int .u8 (hs 5), .int .u8 (hs 6), .int .u8 (hs 7), .int .u8 (hs 8), .int .u8 (hs 9), .int .u8 (hs 10), .int .u8 (hs 11), .int .u8 (hs 12), .int .u8 (hs 13), .int .u8 (hs 14), .int .u8 (hs 15), .int .u8 (hs 16), .int .u8 (hs 17), .int .u8 (hs 18), .int .u8 (hs 19), .int .u8 (hs 20), .int .u8 (hs 21), .int .u8 (hs 22), .int .u8 (hs 23), .int .u8 (hs 24), .int .u8 (hs 25), .int .u8 (hs 26), .int .u8 (hs 27), .int .u8 (hs 28), .int .u8 (hs 29), .int .u8 (hs 30), .int .u8 (hs 31)], vcD_s11 n m t a s R r1 r3 r5 r7 r9 r10) ∧ aBuiltinM EK .append [25, 25] [.slice (some (34, 0)) (35 + (2 + n)) (.rest 1), .slice (some (36, 0)) 4 (.known 4)] (vcD_s12 n m t a s R hs r1 r3 r5 r7 r9 r10) = some (.slice (some (37, 0)) (35 + (2 + n) + 4) (.rest 1), vcD_s13 n m t a s R hs r1 r3 r5 r7 r9 r11) ∧ Q (.slice (some (37, 0)) (35 + (2 + n) + 4) (.rest 1), vcD_s14 R r11)) =
  (tD q n m t a s R hs r1 r2 r3 r4 r5 r6 r7 r8 r9 r10 r11).allY (fun r => Q (r.1, canS [0, 37] r.2)) (.v (.slice (some (13, 0)) 8 (.known 8), vcD_s1 n m t a s R r1) (.v (.slice (some (14, 0)) 11 (.rest 1), vcD_s2 n m t a s R r1 r2) (.v (.slice (some (15, 0)) 8 (.known 8), vcD_s3 n m t a s R r1 r2 r3) (.v (.slice (some (16, 0)) 19 (.rest 1), vcD_s4 n m t a s R r1 r3 r4) (.v (.slice (some (17, 0)) 8 (.known 8), vcD_s5 n m t a s R r1 r3 r4 r5) (.v (.slice (some (18, 0)) 27 (.rest 1), vcD_s6 n m t a s R r1 r3 r5 r6) (.v (.slice (some (29, 0)) 8 (.known 8), vcD_s8 n m t a s R r1 r3 r5 r6 r7) (.v (.slice (some (30, 0)) 35 (.rest 1), vcD_s9 n m t a s R r1 r3 r5 r7 r8) (.v (.slice (some (33, 0)) (2 + n) (.rest 1), vcD_s10 n m t a s R r1 r3 r5 r7 r8 r9) (.v (.slice (some (34, 0)) (35 + (2 + n)) (.rest 1), vcD_s11 n m t a s R r1 r3 r5 r7 r9 r10) (.v (.agg [.int .u8 (hs 0), .int .u8 (hs 1), .int .u8 (hs 2), .int .u8 (hs 3), .int .u8 (hs 4), .int .u8 (hs 5), .int .u8 (hs 6), .int .u8 (hs 7), .int .u8 (hs 8), .int .u8 (hs 9), .int .u8 (hs 10), .int .u8 (hs 11), .int .u8 (hs 12), .int .u8 (hs 13), .int .u8 (hs 14), .int .u8 (hs 15), .int .u8 (hs 16), .int .u8 (hs 17), .int .u8 (hs 18), .int .u8 (hs 19), .int .u8 (hs 20), .int .u8 (hs 21), .int .u8 (hs 22), .int .u8 (hs 23), .int .u8 (hs 24), .int .u8 (hs 25), .int .u8 (hs 26), .int .u8 (hs 27), .int .u8 (hs 28), .int .u8 (hs 29), .int .u8 (hs 30), .int .u8 (hs 31)], vcD_s11 n m t a s R r1 r3 r5 r7 r9 r10) (.v (.slice (some (37, 0)) (35 + (2 + n) + 4) (.rest 1), vcD_s13 n m t a s R hs r1 r3 r5 r7 r9 r11) .nil)))))))))))) := by kernel_rfl
end Go.Proofs.Ytlnohbilfogheaa.rpk
end

section
open Go Go.Ax Go.Proofs.Ytlnohbilfogheaa Go.Proofs.Ytlnohbilfogheaa.pof
namespace Go.Proofs.Ytlnohbilfogheaa.rpk
open Go.Proofs.Ytlnohbilfogheaa.rnu (fl0 row8 num8_any blobAt wrapU8)
open Go.Proofs.Ytlnohbilfogheaa.rdr (AtS AtS.call1)
set_option linter.unusedVariables false
theorem EKok : Env.Ok Try.prog EK := envEx_ok (xs := []) ⟨⟨Try.func70, Try.call70⟩, ⟨Try.func81, Try.call81⟩, ⟨Try.func41, Try.call41⟩, ⟨Try.func95, Try.call95⟩, trivial⟩ trivial (by kernel_rfl)
theorem to1 {P : Program} {f : Nat} {args : List AV} {S R R' : ASt} {v v' : AV} (h : Call1 P f args S (v, R)) (hv : v = v') (hr : R = R') : Call1 P f args S (v', R') := by
  subst hv; subst hr; exact h
theorem dv_eq (m : Nat) : ∀ k, rnu.dv m k = m / 256 ^ k
  | 0 => by simp [rnu.dv]
  | k + 1 => by rw [rnu.dv, dv_eq m k, Nat.div_div_eq_div_mul, Nat.pow_succ]
theorem be8_eq (m : Nat) : pky.be8 (.ofNat m) = row8 m := by
  have h : ∀ i, wrapF .u8 (shrF (.ofNat m) i) = .ofNat (m / 2 ^ i % 256) := fun i => psz.bX_eq m i
  simp only [pky.be8, row8, h, dv_eq]
theorem two_eq {n : Nat} (hn : n < 18446744073709551616) : wri.two n = rnu.row2 n := by
  have h : ∀ i, wrapF .u8 (shrF (.ofNat n) i) = .ofNat (n / 2 ^ i % 256) := fun i => psz.bX_eq n i
  simp only [wri.two, rnu.row2, wri.wrapU64 hn, h, dv_eq]
theorem ints_of : ∀ {row : List AV}, (∀ c, c ∈ row → U8 c) → row = ((row.map natOf).map Int.ofNat).map (AV.int .u8)
  | [], _ => rfl
  | c :: cs, h => by
    obtain ⟨n, _, rfl⟩ := h c List.mem_cons_self
    have ih := ints_of fun y hy => h y (List.mem_cons_of_mem _ hy)
    simp only [List.map_cons]
    rw [← ih]
    rfl
theorem mapU_inj : ∀ {a b : List Int}, a.map (AV.int .u8) = b.map (AV.int .u8) → a = b
  | [], [], _ => rfl
  | [], _ :: _, h => by simp at h
  | _ :: _, [], h => by simp at h
  | x :: a, y :: b, h => by
    simp only [List.map_cons, List.cons.injEq, AV.int.injEq, true_and] at h
    rw [h.1, mapU_inj h.2]
noncomputable def qP (tab : List (Nat × List AV × ASt × (AV × ASt))) : CallT := orC (tabC tab) rsm.sumRS
theorem qP_ok {tab : List (Nat × List AV × ASt × (AV × ASt))} (h : ∀ e, e ∈ tab → Call1 Try.prog e.1 e.2.1 e.2.2.1 e.2.2.2) : CallsOK Try.prog (smK (qP tab)) := onlyC_ok (orC_ok (tabC_ok h) rsm.sumRS_ok)
theorem at_tab {tab : List (Nat × List AV × ASt × (AV × ASt))} {f j : Nat} {args : List AV} {S : ASt} {r : AV × ASt} (hm : memN f [81, 41, 95] = true) (h : tabC tab f args S = some r) : (M EK (drawA EK) (smK (qP tab)) (j + 1)).call f args S = some r :=
  call_at (onlyC_at hm (orC_l h))
theorem hash_at {tab : List (Nat × List AV × ASt × (AV × ASt))} {S : ASt} {j i n : Nat} {c : Cap} {cs row : List AV} {rw : Bool} (hn : tabC tab 95 [.slice (some (i, 0)) n c] S = none) (hg : S.h.get i = some (.cells cs rw)) (ht : takeL cs 0 n = some row) (hu : ∀ c, c ∈ row → U8 c) (h0 : 0 < n) (h9 : n ≤ 90000) :
    (M EK (drawA EK) (smK (qP tab)) (j + 1)).call 95 [.slice (some (i, 0)) n c] S = some (.agg (rowH (pky.hashX row)), S) := by
  refine call_at (onlyC_at rfl (orC_r hn ?_))
  obtain ⟨zs, ez⟩ : ∃ zs, zs = (row.map natOf).map Int.ofNat := ⟨_, rfl⟩
  have er : row = zs.map (AV.int .u8) := by rw [ez]; exact ints_of hu
  have hl : zs.length = n := by
    have := (takeL_ok ht).1
    rw [er, List.length_map] at this
    exact this
  have hb : ∀ x, x ∈ zs → By x := fun x hx => by
    rw [ez] at hx
    obtain ⟨y, hy, rfl⟩ := List.mem_map.1 hx
    exact ⟨y, nats_lt hu y hy, rfl⟩
  have hok : rsm.RefOk S i 0 n zs := ⟨hl, h0, h9, hb, cs, rw, hg, by rw [ht, er]; rfl⟩
  have hex : ∃ v, ∃ bs, rsm.RefOk S i 0 n bs ∧ v = outI (sumZ n fun j => bs.getD j 0) := ⟨_, _, hok, rfl⟩
  have hv : hex.choose = .agg (rowH (pky.hashX row)) := by
    obtain ⟨bs, ⟨_, _, _, _, cs', rw', h5, h6⟩, h7⟩ := hex.choose_spec
    rw [h7]
    rw [hg] at h5
    cases h5
    rw [ht, er] at h6
    rw [← mapU_inj (Option.some.inj h6)]
    unfold pky.hashX pky.intsOf
    rw [er, bytesZ_map, List.length_map, hl]
    exact pky.outI_cl _
  unfold rsm.sumRS
  simp only [Nat.beq_refl, cond_true, dif_pos hex, hv]
theorem ap25 : appT EK 25 25 = some (1, 1) := by kernel_rfl
theorem take_all {cs : List AV} {n : Nat} (h : cs.length = n) : takeL cs 0 n = some cs := by
  subst h
  unfold takeL
  simp only [List.drop_zero, List.take_length, Nat.beq_refl, cond_true]
theorem eql_k {S : ASt} {t : Nat} {c : Int} (z : Int) {b : Bool} (h : eqF z c = b) : still S (aBin EK .eql 61 (.tmp t) (.const (.int .i64 c)) (.int .i64 z) (.int .i64 c)) = some (.bool b, S) := by
  subst h
  exact still_of (by kernel_rfl)
section
variable {S : ASt} {v : AV} {l : List Nat} {k m t a s : Nat}
theorem blob_any (h : SlB S v l) (h0 : l ≠ []) (hb : l.length ≤ 65535) :
    Call1 Try.prog 41 [v] S (.slice (some (S.next + 2, 0)) (2 + l.length) (.rest 1), outS (fun j => S.next + j) [(2, .cells (rnu.row2 l.length ++ l.map cellU) true)] S (S.next + 3)) := by
  obtain ⟨v1, o, r, A⟩ := h.ro 0
  cases A with
  | nil => exact absurd rfl h0
  | zero => exact absurd rfl h0
  | row _ =>
  refine Call1.frame1 (Q1 := fun q => q = (.slice (some (2, 0)) (2 + l.length) (.rest 1), mkSt [(0, .cells (l.map cellU) false), (1, .cells (rnu.row2 l.length) true), (2, .cells (rnu.row2 l.length ++ l.map cellU) true)] 3)) r (fun B w0 ι w args' _ hsr hv => blobAt h0 hb B w0 ι w args' hsr hv) (by omega) (fun q hq => ?_)
  subst hq
  refine ⟨BackV.eq rfl, by show S.next + 3 ≤ S.next + 3; omega, fun p hp => ?_⟩
  simp only [List.mem_cons, List.not_mem_nil, or_false] at hp
  subst hp
  refine ⟨Nat.le_of_ble_eq_true rfl, by show S.next + 2 < S.next + 3; omega, .inr ⟨rfl, _, (by kernel_rfl : (mkSt [(0, AO.cells (l.map cellU) false), (1, AO.cells (rnu.row2 l.length) true), (2, AO.cells (rnu.row2 l.length ++ l.map cellU) true)] 3).h.get 2 = some (.cells (rnu.row2 l.length ++ l.map cellU) true)), BackO.row ?_⟩⟩
  intro c hc
  rcases List.mem_append.1 hc with hc | hc
  · simp only [rnu.row2, List.mem_cons, List.not_mem_nil, or_false] at hc
    rcases hc with rfl | rfl <;> simp [refsV]
  · exact refU l c hc
theorem U8row8 (m : Nat) : ∀ c, c ∈ row8 m → U8 c := be8_eq m ▸ U8be _
def g3 (k : Nat) : List AV := [.int .u8 (.ofNat 71), .int .u8 (.ofNat 80), .int .u8 (.ofNat k)]
theorem hd_eq (k m t : Nat) : pky.hd k (.ofNat m) (.ofNat t) = (g3 k ++ row8 m) ++ row8 t := by
  unfold pky.hd
  rw [be8_eq, be8_eq]
  rfl
end
end Go.Proofs.Ytlnohbilfogheaa.rpk
end

section
open Go Go.Ax Go.Proofs.Ytlnohbilfogheaa Go.Proofs.Ytlnohbilfogheaa.pof
namespace Go.Proofs.Ytlnohbilfogheaa.rpk
open Go.Proofs.Ytlnohbilfogheaa.rnu (fl0 row8 num8_any blobAt wrapU8)
open Go.Proofs.Ytlnohbilfogheaa.rdr (AtS AtS.call1)
set_option linter.unusedVariables false
def G (k : Nat) : List AV := [.int .u8 71, .int .u8 80, .int .u8 (wrapF .u8 (.ofNat k))]
theorem G_eq {k : Nat} (hk : k < 256) : G k = g3 k := by
  unfold G g3
  rw [wrapU8 hk]
  rfl
theorem U8G {k : Nat} (hk : k < 256) : ∀ c, c ∈ G k → U8 c := by
  rw [G_eq hk]
  intro c hc
  simp only [g3, List.mem_cons, List.not_mem_nil, or_false] at hc
  rcases hc with rfl | rfl | rfl
  · exact ⟨71, by decide, rfl⟩
  · exact ⟨80, by decide, rfl⟩
  · exact ⟨k, hk, rfl⟩
def rA (k m t : Nat) : List AV := (G k ++ row8 m) ++ row8 t
theorem U8A {k m t : Nat} (hk : k < 256) : ∀ c, c ∈ rA k m t → U8 c := U8app (U8app (U8G hk) (U8row8 m)) (U8row8 t)
def rB (m t a : Nat) (k : Nat) : List AV := rA k m t ++ row8 a
def rC (m t a s : Nat) : List AV := rB m t a 2 ++ row8 s
def rD (m t a s : Nat) (l : List Nat) : List AV := rC m t a s ++ (rnu.row2 l.length ++ l.map cellU)
theorem U8row2 (n : Nat) : ∀ c, c ∈ rnu.row2 n → U8 c := fun c hc => by
  simp only [rnu.row2, List.mem_cons, List.not_mem_nil, or_false] at hc
  rcases hc with rfl | rfl
  · exact ⟨_, Nat.mod_lt _ (by decide), rfl⟩
  · exact ⟨_, Nat.mod_lt _ (by decide), rfl⟩
theorem rA_full {k m t : Nat} (hk : k < 256) : rA k m t ++ pky.tl4 (pky.hashX (rA k m t)) = (bdO k m t).map cellU := by
  rw [bdO_U hk, full, hd_eq, ← G_eq hk]
  rfl
theorem rB_full {m t a : Nat} : rB m t a 3 ++ pky.tl4 (pky.hashX (rB m t a 3)) = (bdA m t a).map cellU := by
  rw [bdA_U, full, pky.row3, hd_eq, be8_eq, ← G_eq (by decide)]
  rfl
theorem rD_full {m t a s : Nat} {l : List Nat} (hB : ∀ x, x ∈ l → x < 256) (hl : l.length ≤ 65535) : rD m t a s l ++ pky.tl4 (pky.hashX (rD m t a s l)) = (bdD m t a s l).map cellU := by
  have e : pky.row2 (.ofNat m) (.ofNat t) (.ofNat a) (.ofNat s) l = rD m t a s l := by
    rw [pky.row2, pky.head2, hd_eq, be8_eq, be8_eq, two_eq (by omega), ← G_eq (by decide)]
    simp only [rD, rC, rB, rA, List.append_assoc]
  rw [bdD_U hB, full, e]
section
variable {S : ASt} {v : AV} {l : List Nat} {k m t a s : Nat}
theorem packO (hk : k < 256) (k2 : k ≠ 2) (k3 : k ≠ 3) (hm : m < 18446744073709551616) (ht : t < 18446744073709551616) (h : SlB S v l) :
    Call1 Try.prog 70 [pof.pV k m t a s v] S (.slice (some (S.next + 19, 0)) 23 (.rest 1), outS (fun j => S.next + j) [(19, .cells ((bdO k m t).map cellU) true)] S (S.next + 20)) := by
  obtain ⟨v1, o, r, A⟩ := h.ro 0
  obtain ⟨P, eP⟩ : ∃ P, P = pP (.ofNat k) (.ofNat m) (.ofNat t) (.ofNat a) (.ofNat s) v1 := ⟨_, rfl⟩
  have c1 : Call1 Try.prog 81 [.int .u64 (.ofNat m), .int .i64 (.ofNat 8)] (mkSt [(0, o), (1, P), (2, gp (.ofNat k))] 13) (.slice (some (13, 0)) 8 (.known 8), mkSt [(0, o), (1, P), (2, gp (.ofNat k)), (13, .cells (row8 m) true)] 14) := to1 (num8_any hm _) rfl (by kernel_rfl)
  have c2 : Call1 Try.prog 81 [.int .u64 (.ofNat t), .int .i64 (.ofNat 8)] (mkSt [(0, o), (1, P), (2, gp (.ofNat k)), (13, .cells (row8 m) true), (14, .cells (G k ++ row8 m) true)] 15)
    (.slice (some (15, 0)) 8 (.known 8), mkSt [(0, o), (1, P), (2, gp (.ofNat k)), (13, .cells (row8 m) true), (14, .cells (G k ++ row8 m) true), (15, .cells (row8 t) true)] 16) := to1 (num8_any ht _) rfl (by kernel_rfl)
  have hq := qP_ok (tok c1 (tok c2 tok0))
  subst eP
  refine Call1.frame1 (Q1 := fun q => q = (.slice (some (19, 0)) 23 (.rest 1), mkSt [(0, o), (19, .cells (rA k m t ++ pky.tl4 (pky.hashX (rA k m t))) true)] 20)) (pky.pR h r A)
    (fun B w0 ι w args' _ hsr hv => run_of_tm EKok hq (Eq.mp (vcK (qP _) (.ofNat k) (.ofNat m) (.ofNat t) (.ofNat a) (.ofNat s) v1 o (pky.hashX (rA k m t)) (row8 m) (G k ++ row8 m) (row8 t) (rA k m t) (rA k m t ++ pky.tl4 (pky.hashX (rA k m t)))
        (fun q => q = (.slice (some (19, 0)) 23 (.rest 1), mkSt [(0, o), (19, .cells (rA k m t ++ pky.tl4 (pky.hashX (rA k m t))) true)] 20)))
      ⟨at_tab rfl (tabC_hd ..), ?_, at_tab rfl ((tabC_tln rfl).trans (tabC_hd ..)), ?_, ?_, eql_k _ (nf k2), eql_k _ (nf k3), eql_k _ (nf k2), ?_, ?_, rfl⟩) B w0 ι w args' hsr hv) (by omega) (fun q hq => ?_)
  · subst hq
    refine ⟨BackV.eq rfl, by show S.next + 20 ≤ S.next + 20; omega, fun p hp => ?_⟩
    simp only [List.mem_cons, List.not_mem_nil, or_false] at hp
    subst hp
    refine ⟨Nat.le_of_ble_eq_true rfl, by show S.next + 19 < S.next + 20; omega, .inr ⟨rfl, _, (by kernel_rfl : (mkSt [(0, o), (19, AO.cells (rA k m t ++ pky.tl4 (pky.hashX (rA k m t))) true)] 20).h.get 19 = some (.cells (rA k m t ++ pky.tl4 (pky.hashX (rA k m t))) true)), ?_⟩⟩
    rw [rA_full hk]
    exact BackO.row (refU _)
  · exact (append_full_at (l := 3) (new := row8 m) (old := G k) ap25 (n := 8) (by kernel_rfl) (first_at (cs := row8 m) (rw := true) (by kernel_rfl) (by kernel_rfl)) (first_at (cs := G k) (rw := true) (by kernel_rfl) (by kernel_rfl)) (by decide) (by decide) (by decide)).trans (by kernel_rfl)
  · exact (append_grow_at (l := 11) (cs := G k ++ row8 m) (new := row8 t) ap25 (n := 8) (by kernel_rfl) (by kernel_rfl) (by kernel_rfl) (by rfl) (by decide) (by decide) (by decide) (by decide)).trans (by kernel_rfl)
  · simp [holdsO, avEq]
  · exact hash_at (cs := rA k m t) (rw := true) rfl (by kernel_rfl) (by kernel_rfl) (U8A hk) (by decide) (by decide)
  · exact (append_grow_at (l := 19) (cs := rA k m t) (new := pky.tl4 (pky.hashX (rA k m t))) ap25 (n := 4) (by kernel_rfl) (by kernel_rfl) (by kernel_rfl) (by rfl) (by decide) (by decide) (by decide) (by decide)).trans (by kernel_rfl)
theorem packA (hm : m < 18446744073709551616) (ht : t < 18446744073709551616) (ha : a < 18446744073709551616) (h : SlB S v l) :
    Call1 Try.prog 70 [pof.pV 3 m t a s v] S (.slice (some (S.next + 21, 0)) 31 (.rest 1), outS (fun j => S.next + j) [(21, .cells ((bdA m t a).map cellU) true)] S (S.next + 22)) := by
  obtain ⟨v1, o, r, A⟩ := h.ro 0
  obtain ⟨P, eP⟩ : ∃ P, P = pP (.ofNat 3) (.ofNat m) (.ofNat t) (.ofNat a) (.ofNat s) v1 := ⟨_, rfl⟩
  have c1 : Call1 Try.prog 81 [.int .u64 (.ofNat m), .int .i64 (.ofNat 8)] (mkSt [(0, o), (1, P), (2, gp (.ofNat 3))] 13) (.slice (some (13, 0)) 8 (.known 8), mkSt [(0, o), (1, P), (2, gp (.ofNat 3)), (13, .cells (row8 m) true)] 14) := to1 (num8_any hm _) rfl (by kernel_rfl)
  have c2 : Call1 Try.prog 81 [.int .u64 (.ofNat t), .int .i64 (.ofNat 8)] (mkSt [(0, o), (1, P), (2, gp (.ofNat 3)), (13, .cells (row8 m) true), (14, .cells (G 3 ++ row8 m) true)] 15)
    (.slice (some (15, 0)) 8 (.known 8), mkSt [(0, o), (1, P), (2, gp (.ofNat 3)), (13, .cells (row8 m) true), (14, .cells (G 3 ++ row8 m) true), (15, .cells (row8 t) true)] 16) := to1 (num8_any ht _) rfl (by kernel_rfl)
  have c3 : Call1 Try.prog 81 [.int .u64 (.ofNat a), .int .i64 (.ofNat 8)] (mkSt [(0, o), (1, P), (2, gp (.ofNat 3)), (13, .cells (row8 m) true), (14, .dead), (15, .cells (row8 t) true), (16, .cells (rA 3 m t) true)] 17)
    (.slice (some (17, 0)) 8 (.known 8), mkSt [(0, o), (1, P), (2, gp (.ofNat 3)), (13, .cells (row8 m) true), (14, .dead), (15, .cells (row8 t) true), (16, .cells (rA 3 m t) true), (17, .cells (row8 a) true)] 18) := to1 (num8_any ha _) rfl (by kernel_rfl)
  have hq := qP_ok (tok c1 (tok c2 (tok c3 tok0)))
  subst eP
  refine Call1.frame1 (Q1 := fun q => q = (.slice (some (21, 0)) 31 (.rest 1), mkSt [(0, o), (21, .cells (rB m t a 3 ++ pky.tl4 (pky.hashX (rB m t a 3))) true)] 22)) (pky.pR h r A)
    (fun B w0 ι w args' _ hsr hv => run_of_tm EKok hq (Eq.mp (vcA (qP _) (.ofNat m) (.ofNat t) (.ofNat a) (.ofNat s) v1 o (pky.hashX (rB m t a 3)) (row8 m) (G 3 ++ row8 m) (row8 t) (rA 3 m t) (row8 a) (rB m t a 3) (rB m t a 3 ++ pky.tl4 (pky.hashX (rB m t a 3)))
        (fun q => q = (.slice (some (21, 0)) 31 (.rest 1), mkSt [(0, o), (21, .cells (rB m t a 3 ++ pky.tl4 (pky.hashX (rB m t a 3))) true)] 22)))
      ⟨at_tab rfl (tabC_hd ..), ?_, at_tab rfl ((tabC_tln rfl).trans (tabC_hd ..)), ?_, ?_, at_tab rfl ((tabC_tln rfl).trans ((tabC_tln rfl).trans (tabC_hd ..))), ?_, ?_, ?_, rfl⟩) B w0 ι w args' hsr hv) (by omega) (fun q hq => ?_)
  · subst hq
    refine ⟨BackV.eq rfl, by show S.next + 22 ≤ S.next + 22; omega, fun p hp => ?_⟩
    simp only [List.mem_cons, List.not_mem_nil, or_false] at hp
    subst hp
    refine ⟨Nat.le_of_ble_eq_true rfl, by show S.next + 21 < S.next + 22; omega, .inr ⟨rfl, _, (by kernel_rfl : (mkSt [(0, o), (21, AO.cells (rB m t a 3 ++ pky.tl4 (pky.hashX (rB m t a 3))) true)] 22).h.get 21 = some (.cells (rB m t a 3 ++ pky.tl4 (pky.hashX (rB m t a 3))) true)), ?_⟩⟩
    rw [rB_full]
    exact BackO.row (refU _)
  · exact (append_full_at (l := 3) (new := row8 m) (old := G 3) ap25 (n := 8) (by kernel_rfl) (first_at (cs := row8 m) (rw := true) (by kernel_rfl) (by kernel_rfl)) (first_at (cs := G 3) (rw := true) (by kernel_rfl) (by kernel_rfl)) (by decide) (by decide) (by decide)).trans (by kernel_rfl)
  · exact (append_grow_at (l := 11) (cs := G 3 ++ row8 m) (new := row8 t) ap25 (n := 8) (by kernel_rfl) (by kernel_rfl) (by kernel_rfl) (by rfl) (by decide) (by decide) (by decide) (by decide)).trans (by kernel_rfl)
  · simp [holdsO, avEq]
  · exact (append_grow_at (l := 19) (cs := rA 3 m t) (new := row8 a) ap25 (n := 8) (by kernel_rfl) (by kernel_rfl) (by kernel_rfl) (by rfl) (by decide) (by decide) (by decide) (by decide)).trans (by kernel_rfl)
  · exact hash_at (cs := rB m t a 3) (rw := true) rfl (by kernel_rfl) (by kernel_rfl) (U8app (U8A (by decide)) (U8row8 a)) (by decide) (by decide)
  · exact (append_grow_at (l := 27) (cs := rB m t a 3) (new := pky.tl4 (pky.hashX (rB m t a 3))) ap25 (n := 4) (by kernel_rfl) (by kernel_rfl) (by kernel_rfl) (by rfl) (by decide) (by decide) (by decide) (by decide)).trans (by kernel_rfl)
end
end Go.Proofs.Ytlnohbilfogheaa.rpk
end

section
open Go Go.Ax Go.Proofs.Ytlnohbilfogheaa Go.Proofs.Ytlnohbilfogheaa.pof
namespace Go.Proofs.Ytlnohbilfogheaa.rpk
open Go.Proofs.Ytlnohbilfogheaa.rnu (fl0 row8 num8_any blobAt wrapU8)
open Go.Proofs.Ytlnohbilfogheaa.rdr (AtS AtS.call1)
set_option linter.unusedVariables false
section
variable {S : ASt} {v : AV} {l : List Nat} {k m t a s : Nat}
theorem rC_len : (rC m t a s).length = 35 := rfl
theorem rD_len : (rD m t a s l).length = 35 + (2 + l.length) := by
  rw [rD, List.length_append, rC_len, List.length_append, List.length_map]; rfl
theorem U8D (hB : ∀ x, x ∈ l → x < 256) : ∀ c, c ∈ rD m t a s l → U8 c := U8app (U8app (U8app (U8A (by decide)) (U8row8 a)) (U8row8 s)) (U8app (U8row2 _) (U8c hB))
theorem packD (hB : ∀ x, x ∈ l → x < 256) (h0 : l ≠ []) (hl : l.length ≤ 65535) (hm : m < 18446744073709551616) (ht : t < 18446744073709551616) (ha : a < 18446744073709551616) (hs : s < 18446744073709551616) (h : SlB S v l) :
    Call1 Try.prog 70 [pof.pV 2 m t a s v] S (.slice (some (S.next + 37, 0)) (35 + (2 + l.length) + 4) (.rest 1), outS (fun j => S.next + j) [(37, .cells ((bdD m t a s l).map cellU) true)] S (S.next + 38)) := by
  have hn0 : 0 < l.length := List.length_pos_iff.2 h0
  obtain ⟨v1, o, r, A⟩ := h.ro 0
  cases A with
  | nil => exact absurd rfl h0
  | zero => exact absurd rfl h0
  | row _ =>
  have A := ArgB.row (i := 0) h0
  obtain ⟨o, eo⟩ : ∃ o, o = AO.cells (l.map cellU) false := ⟨_, rfl⟩
  obtain ⟨P, eP⟩ : ∃ P, P = pP (.ofNat 2) (.ofNat m) (.ofNat t) (.ofNat a) (.ofNat s) (.slice (some (0, 0)) l.length (.atl l.length)) := ⟨_, rfl⟩
  rw [← eo] at r A
  have c0 : Call1 Try.prog 81 [.int .u64 (.ofNat m), .int .i64 (.ofNat 8)] (mkSt [(0, o), (1, P), (2, gp (.ofNat 2))] 13) (.slice (some (13, 0)) 8 (.known 8), mkSt [(0, o), (1, P), (2, gp (.ofNat 2)), (13, .cells (row8 m) true)] 14) := to1 (num8_any hm _) rfl (by kernel_rfl)
  have c1 : Call1 Try.prog 81 [.int .u64 (.ofNat t), .int .i64 (.ofNat 8)] (mkSt [(0, o), (1, P), (2, gp (.ofNat 2)), (13, .cells (row8 m) true), (14, .cells (G 2 ++ row8 m) true)] 15) (.slice (some (15, 0)) 8 (.known 8), mkSt [(0, o), (1, P), (2, gp (.ofNat 2)), (13, .cells (row8 m) true), (14, .cells (G 2 ++ row8 m) true), (15, .cells (row8 t) true)] 16) := to1 (num8_any ht _) rfl (by kernel_rfl)
  have c2 : Call1 Try.prog 81 [.int .u64 (.ofNat a), .int .i64 (.ofNat 8)] (mkSt [(0, o), (1, P), (2, gp (.ofNat 2)), (13, .cells (row8 m) true), (14, .dead), (15, .cells (row8 t) true), (16, .cells (rA 2 m t) true)] 17) (.slice (some (17, 0)) 8 (.known 8), mkSt [(0, o), (1, P), (2, gp (.ofNat 2)), (13, .cells (row8 m) true), (14, .dead), (15, .cells (row8 t) true), (16, .cells (rA 2 m t) true), (17, .cells (row8 a) true)] 18) := to1 (num8_any ha _) rfl (by kernel_rfl)
  have c3 : Call1 Try.prog 81 [.int .u64 (.ofNat s), .int .i64 (.ofNat 8)] (mkSt [(0, o), (1, P), (2, gp (.ofNat 2)), (13, .cells (row8 m) true), (14, .dead), (15, .cells (row8 t) true), (16, .dead), (17, .cells (row8 a) true), (18, .cells (rB m t a 2) true)] 29) (.slice (some (29, 0)) 8 (.known 8), mkSt [(0, o), (1, P), (2, gp (.ofNat 2)), (13, .cells (row8 m) true), (14, .dead), (15, .cells (row8 t) true), (16, .dead), (17, .cells (row8 a) true), (18, .cells (rB m t a 2) true), (29, .cells (row8 s) true)] 30) := to1 (num8_any hs _) rfl (by kernel_rfl)
  have c4 : Call1 Try.prog 41 [.slice (some (0, 0)) l.length (.atl l.length)] (mkSt [(0, o), (1, P), (2, gp (.ofNat 2)), (13, .cells (row8 m) true), (14, .dead), (15, .cells (row8 t) true), (16, .dead), (17, .cells (row8 a) true), (18, .dead), (29, .cells (row8 s) true), (30, .cells (rC m t a s) true)] 31) (.slice (some (33, 0)) (2 + l.length) (.rest 1), mkSt [(0, o), (1, P), (2, gp (.ofNat 2)), (13, .cells (row8 m) true), (14, .dead), (15, .cells (row8 t) true), (16, .dead), (17, .cells (row8 a) true), (18, .dead), (29, .cells (row8 s) true), (30, .cells (rC m t a s) true), (33, .cells (rnu.row2 l.length ++ l.map cellU) true)] 34) := by subst eo; exact to1 (blob_any (SlB.row (cs := l.map cellU) (rw := false) (by kernel_rfl) takeU) h0 hl) rfl (by kernel_rfl)
  have hq := qP_ok (tok c0 (tok c1 (tok c2 (tok c3 (tok c4 tok0)))))
  subst eP
  refine Call1.frame1 (Q1 := fun q => q = (.slice (some (37, 0)) (35 + (2 + l.length) + 4) (.rest 1), mkSt [(0, o), (37, .cells (rD m t a s l ++ pky.tl4 (pky.hashX (rD m t a s l))) true)] 38)) (pky.pR h r A)
    (fun B w0 ι w args' _ hsr hv => run_of_tm EKok hq (Eq.mp (vcD (qP _) l.length (.ofNat m) (.ofNat t) (.ofNat a) (.ofNat s) o (pky.hashX (rD m t a s l)) (row8 m) (G 2 ++ row8 m) (row8 t) (rA 2 m t) (row8 a) (rB m t a 2) (row8 s) (rC m t a s) (rnu.row2 l.length ++ l.map cellU) (rD m t a s l) (rD m t a s l ++ pky.tl4 (pky.hashX (rD m t a s l)))
        (fun q => q = (.slice (some (37, 0)) (35 + (2 + l.length) + 4) (.rest 1), mkSt [(0, o), (37, .cells (rD m t a s l ++ pky.tl4 (pky.hashX (rD m t a s l))) true)] 38)))
      ⟨at_tab rfl (tabC_hd ..), ?_, at_tab rfl ((tabC_tln rfl).trans (tabC_hd ..)), ?_, ?_, at_tab rfl ((tabC_tln rfl).trans ((tabC_tln rfl).trans (tabC_hd ..))), ?_, at_tab rfl ((tabC_tln rfl).trans ((tabC_tln rfl).trans ((tabC_tln rfl).trans (tabC_hd ..)))), ?_, at_tab rfl ((tabC_tln rfl).trans ((tabC_tln rfl).trans ((tabC_tln rfl).trans ((tabC_tln rfl).trans (tabC_hd ..))))), ?_, ?_, ?_, ?_, rfl⟩) B w0 ι w args' hsr hv) (by omega) (fun q hq => ?_)
  · subst hq
    refine ⟨BackV.eq rfl, by show S.next + 38 ≤ S.next + 38; omega, fun p hp => ?_⟩
    simp only [List.mem_cons, List.not_mem_nil, or_false] at hp
    subst hp
    refine ⟨Nat.le_of_ble_eq_true rfl, by show S.next + 37 < S.next + 38; omega, .inr ⟨rfl, _, (by kernel_rfl : (mkSt [(0, o), (37, AO.cells (rD m t a s l ++ pky.tl4 (pky.hashX (rD m t a s l))) true)] 38).h.get 37 = some (.cells (rD m t a s l ++ pky.tl4 (pky.hashX (rD m t a s l))) true)), ?_⟩⟩
    rw [rD_full hB hl]
    exact BackO.row (refU _)
  · exact (append_full_at (l := 3) (new := row8 m) (old := G 2) ap25 (n := 8) (by kernel_rfl) (first_at (cs := row8 m) (rw := true) (by kernel_rfl) (by kernel_rfl)) (first_at (cs := G 2) (rw := true) (by kernel_rfl) (by kernel_rfl)) (by decide) (by decide) (by decide)).trans (by kernel_rfl)
  · exact (append_grow_at (l := 11) (cs := G 2 ++ row8 m) (new := row8 t) ap25 (n := 8) (by kernel_rfl) (by kernel_rfl) (by kernel_rfl) (by rfl) (by decide) (by decide) (by decide) (by decide)).trans (by kernel_rfl)
  · simp [holdsO, avEq]
  · exact (append_grow_at (l := 19) (cs := rA 2 m t) (new := row8 a) ap25 (n := 8) (by kernel_rfl) (by kernel_rfl) (by kernel_rfl) (by rfl) (by decide) (by decide) (by decide) (by decide)).trans (by kernel_rfl)
  · exact (append_grow_at (l := 27) (cs := rB m t a 2) (new := row8 s) ap25 (n := 8) (by kernel_rfl) (by kernel_rfl) (by kernel_rfl) (by rfl) (by decide) (by decide) (by decide) (by decide)).trans (by kernel_rfl)
  · exact (append_grow_at (l := 35) (cs := rC m t a s) (new := rnu.row2 l.length ++ l.map cellU) ap25 (n := 2 + l.length) (by kernel_rfl) (first_at (cs := rnu.row2 l.length ++ l.map cellU) (rw := true) (by kernel_rfl) (take_all (by rw [Nat.mul_one, List.length_append, List.length_map]; rfl))) (by kernel_rfl) (by rfl) (by decide) (by omega) (by omega) (by omega)).trans (by kernel_rfl)
  · simp [holdsO, avEq, locEq, capEq]
  · exact hash_at (cs := rD m t a s l) (rw := true) rfl (by kernel_rfl) (take_all rD_len) (U8D hB) (by omega) (by omega)
  · exact (append_grow_at (l := 35 + (2 + l.length)) (cs := rD m t a s l) (new := pky.tl4 (pky.hashX (rD m t a s l))) ap25 (n := 4) (by kernel_rfl) (by kernel_rfl) (by kernel_rfl) (by rw [rD_len, Nat.mul_one]) (by decide) (by decide) (by omega) (by omega)).trans (by kernel_rfl)
end
end Go.Proofs.Ytlnohbilfogheaa.rpk
end

section
open Go Go.Ax Go.Proofs.Ytlnohbilfogheaa
namespace Go.Proofs.Ytlnohbilfogheaa.rof
open Go.Proofs.Ytlnohbilfogheaa.rdr (fl0 nI)
open Go.Proofs.Ytlnohbilfogheaa.rrd (rr slR)
set_option linter.unusedVariables false
def fstO (x : Option (AV × ASt)) : Option AV := match x with | some (v, _) => some v | none => none
noncomputable def fnsP : List (Nat × Func) := [(26, Try.f26), (66, Try.f66), (67, Try.f67), (68, Try.f68), (69, Try.f69), (70, Try.f70)]
noncomputable def EP : Env := envEx Try.prog [0, 3, 4, 5, 9, 25, 28, 61, 63, 66, 68, 113, 115] fnsP []
noncomputable def smP (q : CallT) : CallT := onlyC [66, 67, 68, 69, 70] q
noncomputable def flsP : List (Nat × Fl) := [(26, ⟨[7, 11, 12, 17, 18, 24, 26, 31, 35, 38, 42, 46, 49, 53, 55, 58, 61, 65, 70, 71, 73, 74], [], [8, 13, 19, 61, 65, 74], []⟩)]
noncomputable def zC : List AV := [.int .i64 0, .int .u64 0, .int .u64 0, .int .u64 0, .int .u64 0, .slice none 0 (.known 0)]
noncomputable def pO (k x1 x2 x3 x4 : Int) (P : AV) : AO := .cells [.int .i64 k, .int .u64 x1, .int .u64 x2, .int .u64 x3, .int .u64 x4, P] true
noncomputable def mQ (R : AO) (o n c : Nat) (b : Bool) (p : AO) (nx : Nat) : ASt := mkSt [(0, R), (1, .cells zC true), (2, rr o n c b), (3, p)] nx
noncomputable def mR (R : AO) (o n c : Nat) (b : Bool) (p : AO) (k : Nat) (RP : AO) (nx : Nat) : ASt := mkSt [(0, R), (1, .cells zC true), (2, rr o n c b), (3, p), (k, RP)] nx
def nl : AV := .slice none 0 (.known 0)
noncomputable def tO (q : CallT) (n b0 b1 : Nat) (R RP : AO) (dn may eq : Bool) (sa sb : List Nat) (x0 x1 x2 o1 n1 c1 o2 n2 c2 o3 n3 c3 : Nat) (d1 d2 d3 : Bool) : Tr (AV × ASt) := (TM EP (smP q) flsP fl0 60).call 26 [.slice (some (0, 0)) n (.atl n)] (mkSt [(0, R)] 1)
noncomputable def tA (q : CallT) (n b0 b1 : Nat) (R RP : AO) (dn may eq : Bool) (sa sb : List Nat) (x0 x1 x2 x3 o1 n1 c1 o2 n2 c2 o3 n3 c3 o4 n4 c4 : Nat) (d1 d2 d3 d4 : Bool) : Tr (AV × ASt) := (TM EP (smP q) flsP fl0 60).call 26 [.slice (some (0, 0)) n (.atl n)] (mkSt [(0, R)] 1)
noncomputable def tD (q : CallT) (n b0 b1 : Nat) (R RP : AO) (dn may eq : Bool) (sa sb : List Nat) (x0 x1 x2 x3 x4 ow nw cw o1 n1 c1 o2 n2 c2 o3 n3 c3 o4 n4 c4 o5 n5 c5 o6 n6 c6 : Nat) (d1 d2 d3 d4 d5 d6 : Bool) : Tr (AV × ASt) := (TM EP (smP q) flsP fl0 60).call 26 [.slice (some (0, 0)) n (.atl n)] (mkSt [(0, R)] 1)
noncomputable def tN (q : CallT) (n b0 b1 : Nat) (R RP : AO) (dn may eq : Bool) (sa sb : List Nat) (x0 x1 x2 x3 x4 o1 n1 c1 o2 n2 c2 o3 n3 c3 o4 n4 c4 o5 n5 c5 o6 n6 c6 : Nat) (d1 d2 d3 d4 d5 d6 : Bool) : Tr (AV × ASt) := (TM EP (smP q) flsP fl0 60).call 26 [.slice (some (0, 0)) n (.atl n)] (mkSt [(0, R)] 1)
noncomputable def vcO_s0 (R : AO) : ASt := mkSt [(0, R), (1, .cells z6c true)] 2
noncomputable def vcO_s1 (R : AO) : ASt := mkSt [(0, R)] 2
noncomputable def vcO_s2 (n : Nat) (R : AO) : ASt := mkSt [(0, R), (1, .cells z6c true), (2, .cells [.slice (some (0, 2)) (n - 6) (.atl (n - 2)), .bool false] true), (3, .cells z6c true)] 4
noncomputable def vcO_s3 (R : AO) (o1 n1 c1 : Nat) (d1 : Bool) : ASt := mkSt [(0, R), (1, .cells z6c true), (2, .cells [.slice (some (0, o1)) n1 (.atl c1), .bool d1] true), (3, .cells z6c true)] 6
noncomputable def vcO_s4 (R : AO) (x0 o1 n1 c1 : Nat) (d1 : Bool) : ASt := mkSt [(0, R), (1, .cells z6c true), (2, .cells [.slice (some (0, o1)) n1 (.atl c1), .bool d1] true), (3, .cells [.int .i64 (wrapF .i64 (.ofNat x0)), .int .u64 (.ofNat 0), .int .u64 (.ofNat 0), .int .u64 (.ofNat 0), .int .u64 (.ofNat 0), .slice none 0 (.known 0)] true)] 6
noncomputable def vcO_s5 (R : AO) (x0 o2 n2 c2 : Nat) (d2 : Bool) : ASt := mkSt [(0, R), (1, .cells z6c true), (2, .cells [.slice (some (0, o2)) n2 (.atl c2), .bool d2] true), (3, .cells [.int .i64 (wrapF .i64 (.ofNat x0)), .int .u64 (.ofNat 0), .int .u64 (.ofNat 0), .int .u64 (.ofNat 0), .int .u64 (.ofNat 0), .slice none 0 (.known 0)] true)] 8
noncomputable def vcO_s6 (R : AO) (x0 x1 o2 n2 c2 : Nat) (d2 : Bool) : ASt := mkSt [(0, R), (1, .cells z6c true), (2, .cells [.slice (some (0, o2)) n2 (.atl c2), .bool d2] true), (3, .cells [.int .i64 (wrapF .i64 (.ofNat x0)), .int .u64 (.ofNat x1), .int .u64 (.ofNat 0), .int .u64 (.ofNat 0), .int .u64 (.ofNat 0), .slice none 0 (.known 0)] true)] 8
noncomputable def vcO_s7 (R : AO) (x0 x1 o3 n3 c3 : Nat) (d3 : Bool) : ASt := mkSt [(0, R), (1, .cells z6c true), (2, .cells [.slice (some (0, o3)) n3 (.atl c3), .bool d3] true), (3, .cells [.int .i64 (wrapF .i64 (.ofNat x0)), .int .u64 (.ofNat x1), .int .u64 (.ofNat 0), .int .u64 (.ofNat 0), .int .u64 (.ofNat 0), .slice none 0 (.known 0)] true)] 10
noncomputable def vcO_s8 (R : AO) (x0 x1 x2 o3 n3 c3 : Nat) (d3 : Bool) : ASt := mkSt [(0, R), (1, .cells z6c true), (2, .cells [.slice (some (0, o3)) n3 (.atl c3), .bool d3] true), (3, .cells [.int .i64 (wrapF .i64 (.ofNat x0)), .int .u64 (.ofNat x1), .int .u64 (.ofNat x2), .int .u64 (.ofNat 0), .int .u64 (.ofNat 0), .slice none 0 (.known 0)] true)] 10
noncomputable def vcO_s9 (R : AO) (x0 x1 x2 o3 n3 c3 : Nat) (d3 : Bool) : ASt := mkSt [(0, R), (1, .cells z6c true), (2, .cells [.slice (some (0, o3)) n3 (.atl c3), .bool d3] true), (3, .cells [.int .i64 (wrapF .i64 (.ofNat x0)), .int .u64 (.ofNat x1), .int .u64 (.ofNat x2), .int .u64 (.ofNat 0), .int .u64 (.ofNat 0), .slice none 0 (.known 0)] true)] 26
noncomputable def vcO_s10 (R : AO) (x0 x1 x2 o3 n3 c3 : Nat) (d3 : Bool) : ASt := mkSt [(0, R), (1, .cells z6c true), (2, .cells [.slice (some (0, o3)) n3 (.atl c3), .bool d3] true), (3, .cells [.int .i64 (wrapF .i64 (.ofNat x0)), .int .u64 (.ofNat x1), .int .u64 (.ofNat x2), .int .u64 (.ofNat 0), .int .u64 (.ofNat 0), .slice none 0 (.known 0)] true)] 28
noncomputable def vcO_s11 (R RP : AO) (x0 x1 x2 o3 n3 c3 : Nat) (d3 : Bool) : ASt := mkSt [(0, R), (1, .cells z6c true), (2, .cells [.slice (some (0, o3)) n3 (.atl c3), .bool d3] true), (3, .cells [.int .i64 (wrapF .i64 (.ofNat x0)), .int .u64 (.ofNat x1), .int .u64 (.ofNat x2), .int .u64 (.ofNat 0), .int .u64 (.ofNat 0), .slice none 0 (.known 0)] true), (47, RP)] 48
noncomputable def vcO_s12 (R : AO) : ASt := mkSt [(0, R)] 48
noncomputable def vcO_s13 (R : AO) : ASt := mkSt [(0, R)] 28
theorem vcO (q : CallT) (n b0 b1 : Nat) (R RP : AO) (dn may eq : Bool) (sa sb : List Nat) (x0 x1 x2 o1 n1 c1 o2 n2 c2 o3 n3 c3 : Nat) (d1 d2 d3 : Bool) (Q : AV × ASt → Prop) :
  (aBuiltinM EP .len [25] [.slice (some (0, 0)) n (.atl n)] (vcO_s0 R) = some (.int .i64 (.ofNat n), vcO_s0 R) ∧ ifB (ltF (.ofNat n) (.ofNat 23)) (Q (.tuple [.agg z6c, .bool false], vcO_s1 R)) (still (vcO_s0 R) (aIndexAddr EP 25 (.slice (some (0, 0)) n (.atl n)) (.int .i64 (.ofNat 0))) = some (.ptr (some (0, 0)), vcO_s0 R) ∧ aLoad EP 5 (.ptr (some (0, 0))) (vcO_s0 R) = some (.int .u8 (.ofNat b0), vcO_s0 R) ∧ ifB (!eqF (.ofNat b0) (.ofNat 71)) (Q (.tuple [.agg z6c, .bool false], vcO_s1 R)) (still (vcO_s0 R) (aIndexAddr EP 25 (.slice (some (0, 0)) n (.atl n)) (.int .i64 (.ofNat 1))) = some (.ptr (some (0, 1)), vcO_s0 R) ∧ aLoad EP 5 (.ptr (some (0, 1))) (vcO_s0 R) = some (.int .u8 (.ofNat b1), vcO_s0 R) ∧ ifB (!eqF (.ofNat b1) (.ofNat 80)) (Q (.tuple [.agg z6c, .bool false], vcO_s1 R)) (aBuiltinM EP .len [25] [.slice (some (0, 0)) n (.atl n)] (vcO_s0 R) = some (.int .i64 (.ofNat n), vcO_s0 R) ∧ still (vcO_s0 R) (aSlice EP 25 (.slice (some (0, 0)) n (.atl n)) (some (.int .i64 (.ofNat 2))) (some (.int .i64 (wrapF .i64 (.ofNat n - .ofNat 4)))) none (vcO_s0 R)) = some (.slice (some (0, 2)) (n - 6) (.atl (n - 2)), vcO_s0 R) ∧ (M EP (drawA EP) (smP q) 53).call 66 [.ptr (some (2, 0)), .int .i64 (.ofNat 1)] (vcO_s2 n R) = some (.int .u64 (.ofNat x0), vcO_s3 R o1 n1 c1 d1) ∧ (M EP (drawA EP) (smP q) 52).call 66 [.ptr (some (2, 0)), .int .i64 (.ofNat 8)] (vcO_s4 R x0 o1 n1 c1 d1) = some (.int .u64 (.ofNat x1), vcO_s5 R x0 o2 n2 c2 d2) ∧ (M EP (drawA EP) (smP q) 51).call 66 [.ptr (some (2, 0)), .int .i64 (.ofNat 8)] (vcO_s6 R x0 x1 o2 n2 c2 d2) = some (.int .u64 (.ofNat x2), vcO_s7 R x0 x1 o3 n3 c3 d3) ∧ still (vcO_s8 R x0 x1 x2 o3 n3 c3 d3) (aBin EP .eql 61 (.tmp 41) (.const (.int .i64 2)) (.int .i64 (wrapF .i64 (.ofNat x0))) (.int .i64 (.ofNat 2))) = some (.bool false, vcO_s8 R x0 x1 x2 o3 n3 c3 d3) ∧ still (vcO_s8 R x0 x1 x2 o3 n3 c3 d3) (aBin EP .eql 61 (.tmp 45) (.const (.int .i64 3)) (.int .i64 (wrapF .i64 (.ofNat x0))) (.int .i64 (.ofNat 3))) = some (.bool false, vcO_s8 R x0 x1 x2 o3 n3 c3 d3) ∧ still (vcO_s8 R x0 x1 x2 o3 n3 c3 d3) (aBin EP .eql 61 (.tmp 52) (.const (.int .i64 2)) (.int .i64 (wrapF .i64 (.ofNat x0))) (.int .i64 (.ofNat 2))) = some (.bool false, vcO_s8 R x0 x1 x2 o3 n3 c3 d3) ∧ (M EP (drawA EP) (smP q) 47).call 68 [.ptr (some (2, 0))] (vcO_s9 R x0 x1 x2 o3 n3 c3 d3) = some (.bool dn, vcO_s10 R x0 x1 x2 o3 n3 c3 d3) ∧ ifB dn ((M EP (drawA EP) (smP q) 47).call 69 [.agg [.int .i64 (wrapF .i64 (.ofNat x0)), .int .u64 (.ofNat x1), .int .u64 (.ofNat x2), .int .u64 (.ofNat 0), .int .u64 (.ofNat 0), .slice none 0 (.known 0)]] (vcO_s10 R x0 x1 x2 o3 n3 c3 d3) = some (.bool may, vcO_s10 R x0 x1 x2 o3 n3 c3 d3) ∧ ifB may ((M EP (drawA EP) (smP q) 47).call 70 [.agg [.int .i64 (wrapF .i64 (.ofNat x0)), .int .u64 (.ofNat x1), .int .u64 (.ofNat x2), .int .u64 (.ofNat 0), .int .u64 (.ofNat 0), .slice none 0 (.known 0)]] (vcO_s10 R x0 x1 x2 o3 n3 c3 d3) = some (.slice (some (47, 0)) 23 (.rest 1), vcO_s11 R RP x0 x1 x2 o3 n3 c3 d3) ∧ aConvert EP 25 9 (.slice (some (47, 0)) 23 (.rest 1)) (vcO_s11 R RP x0 x1 x2 o3 n3 c3 d3) = some (.str sa, vcO_s11 R RP x0 x1 x2 o3 n3 c3 d3) ∧ aConvert EP 25 9 (.slice (some (0, 0)) n (.atl n)) (vcO_s11 R RP x0 x1 x2 o3 n3 c3 d3) = some (.str sb, vcO_s11 R RP x0 x1 x2 o3 n3 c3 d3) ∧ still (vcO_s11 R RP x0 x1 x2 o3 n3 c3 d3) (aBin EP .neq 9 (.tmp 71) (.tmp 73) (.str sa) (.str sb)) = some (.bool eq, vcO_s11 R RP x0 x1 x2 o3 n3 c3 d3) ∧ ifB eq (holdsO [(fstO (aConvert EP 25 9 (.slice (some (0, 0)) n (.atl n)) (vcO_s10 R x0 x1 x2 o3 n3 c3 d3)), .str sb)] ∧ Q (.tuple [.agg z6c, .bool false], vcO_s12 R)) (holdsO [(fstO (aConvert EP 25 9 (.slice (some (0, 0)) n (.atl n)) (vcO_s10 R x0 x1 x2 o3 n3 c3 d3)), .str sb)] ∧ Q (.tuple [.agg [.int .i64 (wrapF .i64 (.ofNat x0)), .int .u64 (.ofNat x1), .int .u64 (.ofNat x2), .int .u64 (.ofNat 0), .int .u64 (.ofNat 0), .slice none 0 (.known 0)], .bool true], vcO_s12 R))) (holdsO [(some (.tuple []), .tuple [])] ∧ Q (.tuple [.agg z6c, .bool false], vcO_s13 R))) (holdsO [(some (.tuple []), .tuple [])] ∧ Q (.tuple [.agg z6c, .bool false], vcO_s13 R)))))) =
  (tO q n b0 b1 R RP dn may eq sa sb x0 x1 x2 o1 n1 c1 o2 n2 c2 o3 n3 c3 d1 d2 d3).allY (fun r => Q (r.1, canS [0] r.2)) (.v (.int .i64 (.ofNat n), vcO_s0 R) (.b .nil (.v (.ptr (some (0, 0)), vcO_s0 R) (.v (.int .u8 (.ofNat b0), vcO_s0 R) (.b .nil (.v (.ptr (some (0, 1)), vcO_s0 R) (.v (.int .u8 (.ofNat b1), vcO_s0 R) (.b .nil (.v (.int .i64 (.ofNat n), vcO_s0 R) (.v (.slice (some (0, 2)) (n - 6) (.atl (n - 2)), vcO_s0 R) (.v (.int .u64 (.ofNat x0), vcO_s3 R o1 n1 c1 d1) (.v (.int .u64 (.ofNat x1), vcO_s5 R x0 o2 n2 c2 d2) (.v (.int .u64 (.ofNat x2), vcO_s7 R x0 x1 o3 n3 c3 d3) (.v (.bool false, vcO_s8 R x0 x1 x2 o3 n3 c3 d3) (.v (.bool false, vcO_s8 R x0 x1 x2 o3 n3 c3 d3) (.v (.bool false, vcO_s8 R x0 x1 x2 o3 n3 c3 d3) (.v (.bool dn, vcO_s10 R x0 x1 x2 o3 n3 c3 d3) (.b (.v (.bool may, vcO_s10 R x0 x1 x2 o3 n3 c3 d3) (.b (.v (.slice (some (47, 0)) 23 (.rest 1), vcO_s11 R RP x0 x1 x2 o3 n3 c3 d3) (.v (.str sa, vcO_s11 R RP x0 x1 x2 o3 n3 c3 d3) (.v (.str sb, vcO_s11 R RP x0 x1 x2 o3 n3 c3 d3) (.v (.bool eq, vcO_s11 R RP x0 x1 x2 o3 n3 c3 d3) (.b .nil .nil))))) .nil)) .nil)))))))))))))))))) := by kernel_rfl
noncomputable def vcA_s0 (R : AO) : ASt := mkSt [(0, R), (1, .cells z6c true)] 2
noncomputable def vcA_s1 (R : AO) : ASt := mkSt [(0, R)] 2
noncomputable def vcA_s2 (n : Nat) (R : AO) : ASt := mkSt [(0, R), (1, .cells z6c true), (2, .cells [.slice (some (0, 2)) (n - 6) (.atl (n - 2)), .bool false] true), (3, .cells z6c true)] 4
noncomputable def vcA_s3 (R : AO) (o1 n1 c1 : Nat) (d1 : Bool) : ASt := mkSt [(0, R), (1, .cells z6c true), (2, .cells [.slice (some (0, o1)) n1 (.atl c1), .bool d1] true), (3, .cells z6c true)] 6
noncomputable def vcA_s4 (R : AO) (x0 o1 n1 c1 : Nat) (d1 : Bool) : ASt := mkSt [(0, R), (1, .cells z6c true), (2, .cells [.slice (some (0, o1)) n1 (.atl c1), .bool d1] true), (3, .cells [.int .i64 (wrapF .i64 (.ofNat x0)), .int .u64 (.ofNat 0), .int .u64 (.ofNat 0), .int .u64 (.ofNat 0), .int .u64 (.ofNat 0), .slice none 0 (.known 0)] true)] 6
noncomputable def vcA_s5 (R : AO) (x0 o2 n2 c2 : Nat) (d2 : Bool) : ASt := mkSt [(0, R), (1, .cells z6c true), (2, .cells [.slice (some (0, o2)) n2 (.atl c2), .bool d2] true), (3, .cells [.int .i64 (wrapF .i64 (.ofNat x0)), .int .u64 (.ofNat 0), .int .u64 (.ofNat 0), .int .u64 (.ofNat 0), .int .u64 (.ofNat 0), .slice none 0 (.known 0)] true)] 8
noncomputable def vcA_s6 (R : AO) (x0 x1 o2 n2 c2 : Nat) (d2 : Bool) : ASt := mkSt [(0, R), (1, .cells z6c true), (2, .cells [.slice (some (0, o2)) n2 (.atl c2), .bool d2] true), (3, .cells [.int .i64 (wrapF .i64 (.ofNat x0)), .int .u64 (.ofNat x1), .int .u64 (.ofNat 0), .int .u64 (.ofNat 0), .int .u64 (.ofNat 0), .slice none 0 (.known 0)] true)] 8
noncomputable def vcA_s7 (R : AO) (x0 x1 o3 n3 c3 : Nat) (d3 : Bool) : ASt := mkSt [(0, R), (1, .cells z6c true), (2, .cells [.slice (some (0, o3)) n3 (.atl c3), .bool d3] true), (3, .cells [.int .i64 (wrapF .i64 (.ofNat x0)), .int .u64 (.ofNat x1), .int .u64 (.ofNat 0), .int .u64 (.ofNat 0), .int .u64 (.ofNat 0), .slice none 0 (.known 0)] true)] 10
noncomputable def vcA_s8 (R : AO) (x0 x1 x2 o3 n3 c3 : Nat) (d3 : Bool) : ASt := mkSt [(0, R), (1, .cells z6c true), (2, .cells [.slice (some (0, o3)) n3 (.atl c3), .bool d3] true), (3, .cells [.int .i64 (wrapF .i64 (.ofNat x0)), .int .u64 (.ofNat x1), .int .u64 (.ofNat x2), .int .u64 (.ofNat 0), .int .u64 (.ofNat 0), .slice none 0 (.known 0)] true)] 10
noncomputable def vcA_s9 (R : AO) (x0 x1 x2 o4 n4 c4 : Nat) (d4 : Bool) : ASt := mkSt [(0, R), (1, .cells z6c true), (2, .cells [.slice (some (0, o4)) n4 (.atl c4), .bool d4] true), (3, .cells [.int .i64 (wrapF .i64 (.ofNat x0)), .int .u64 (.ofNat x1), .int .u64 (.ofNat x2), .int .u64 (.ofNat 0), .int .u64 (.ofNat 0), .slice none 0 (.known 0)] true)] 12
noncomputable def vcA_s10 (R : AO) (x0 x1 x2 x3 o4 n4 c4 : Nat) (d4 : Bool) : ASt := mkSt [(0, R), (1, .cells z6c true), (2, .cells [.slice (some (0, o4)) n4 (.atl c4), .bool d4] true), (3, .cells [.int .i64 (wrapF .i64 (.ofNat x0)), .int .u64 (.ofNat x1), .int .u64 (.ofNat x2), .int .u64 (.ofNat x3), .int .u64 (.ofNat 0), .slice none 0 (.known 0)] true)] 12
noncomputable def vcA_s11 (R : AO) (x0 x1 x2 x3 o4 n4 c4 : Nat) (d4 : Bool) : ASt := mkSt [(0, R), (1, .cells z6c true), (2, .cells [.slice (some (0, o4)) n4 (.atl c4), .bool d4] true), (3, .cells [.int .i64 (wrapF .i64 (.ofNat x0)), .int .u64 (.ofNat x1), .int .u64 (.ofNat x2), .int .u64 (.ofNat x3), .int .u64 (.ofNat 0), .slice none 0 (.known 0)] true)] 28
noncomputable def vcA_s12 (R : AO) (x0 x1 x2 x3 o4 n4 c4 : Nat) (d4 : Bool) : ASt := mkSt [(0, R), (1, .cells z6c true), (2, .cells [.slice (some (0, o4)) n4 (.atl c4), .bool d4] true), (3, .cells [.int .i64 (wrapF .i64 (.ofNat x0)), .int .u64 (.ofNat x1), .int .u64 (.ofNat x2), .int .u64 (.ofNat x3), .int .u64 (.ofNat 0), .slice none 0 (.known 0)] true)] 30
noncomputable def vcA_s13 (R RP : AO) (x0 x1 x2 x3 o4 n4 c4 : Nat) (d4 : Bool) : ASt := mkSt [(0, R), (1, .cells z6c true), (2, .cells [.slice (some (0, o4)) n4 (.atl c4), .bool d4] true), (3, .cells [.int .i64 (wrapF .i64 (.ofNat x0)), .int .u64 (.ofNat x1), .int .u64 (.ofNat x2), .int .u64 (.ofNat x3), .int .u64 (.ofNat 0), .slice none 0 (.known 0)] true), (51, RP)] 52
noncomputable def vcA_s14 (R : AO) : ASt := mkSt [(0, R)] 52
noncomputable def vcA_s15 (R : AO) : ASt := mkSt [(0, R)] 30
theorem vcA (q : CallT) (n b0 b1 : Nat) (R RP : AO) (dn may eq : Bool) (sa sb : List Nat) (x0 x1 x2 x3 o1 n1 c1 o2 n2 c2 o3 n3 c3 o4 n4 c4 : Nat) (d1 d2 d3 d4 : Bool) (Q : AV × ASt → Prop) :
  (aBuiltinM EP .len [25] [.slice (some (0, 0)) n (.atl n)] (vcA_s0 R) = some (.int .i64 (.ofNat n), vcA_s0 R) ∧ ifB (ltF (.ofNat n) (.ofNat 23)) (Q (.tuple [.agg z6c, .bool false], vcA_s1 R)) (still (vcA_s0 R) (aIndexAddr EP 25 (.slice (some (0, 0)) n (.atl n)) (.int .i64 (.ofNat 0))) = some (.ptr (some (0, 0)), vcA_s0 R) ∧ aLoad EP 5 (.ptr (some (0, 0))) (vcA_s0 R) = some (.int .u8 (.ofNat b0), vcA_s0 R) ∧ ifB (!eqF (.ofNat b0) (.ofNat 71)) (Q (.tuple [.agg z6c, .bool false], vcA_s1 R)) (still (vcA_s0 R) (aIndexAddr EP 25 (.slice (some (0, 0)) n (.atl n)) (.int .i64 (.ofNat 1))) = some (.ptr (some (0, 1)), vcA_s0 R) ∧ aLoad EP 5 (.ptr (some (0, 1))) (vcA_s0 R) = some (.int .u8 (.ofNat b1), vcA_s0 R) ∧ ifB (!eqF (.ofNat b1) (.ofNat 80)) (Q (.tuple [.agg z6c, .bool false], vcA_s1 R)) (aBuiltinM EP .len [25] [.slice (some (0, 0)) n (.atl n)] (vcA_s0 R) = some (.int .i64 (.ofNat n), vcA_s0 R) ∧ still (vcA_s0 R) (aSlice EP 25 (.slice (some (0, 0)) n (.atl n)) (some (.int .i64 (.ofNat 2))) (some (.int .i64 (wrapF .i64 (.ofNat n - .ofNat 4)))) none (vcA_s0 R)) = some (.slice (some (0, 2)) (n - 6) (.atl (n - 2)), vcA_s0 R) ∧ (M EP (drawA EP) (smP q) 53).call 66 [.ptr (some (2, 0)), .int .i64 (.ofNat 1)] (vcA_s2 n R) = some (.int .u64 (.ofNat x0), vcA_s3 R o1 n1 c1 d1) ∧ (M EP (drawA EP) (smP q) 52).call 66 [.ptr (some (2, 0)), .int .i64 (.ofNat 8)] (vcA_s4 R x0 o1 n1 c1 d1) = some (.int .u64 (.ofNat x1), vcA_s5 R x0 o2 n2 c2 d2) ∧ (M EP (drawA EP) (smP q) 51).call 66 [.ptr (some (2, 0)), .int .i64 (.ofNat 8)] (vcA_s6 R x0 x1 o2 n2 c2 d2) = some (.int .u64 (.ofNat x2), vcA_s7 R x0 x1 o3 n3 c3 d3) ∧ still (vcA_s8 R x0 x1 x2 o3 n3 c3 d3) (aBin EP .eql 61 (.tmp 41) (.const (.int .i64 2)) (.int .i64 (wrapF .i64 (.ofNat x0))) (.int .i64 (.ofNat 2))) = some (.bool false, vcA_s8 R x0 x1 x2 o3 n3 c3 d3) ∧ still (vcA_s8 R x0 x1 x2 o3 n3 c3 d3) (aBin EP .eql 61 (.tmp 45) (.const (.int .i64 3)) (.int .i64 (wrapF .i64 (.ofNat x0))) (.int .i64 (.ofNat 3))) = some (.bool true, vcA_s8 R x0 x1 x2 o3 n3 c3 d3) ∧ (M EP (drawA EP) (smP q) 48).call 66 [.ptr (some (2, 0)), .int .i64 (.ofNat 8)] (vcA_s8 R x0 x1 x2 o3 n3 c3 d3) = some (.int .u64 (.ofNat x3), vcA_s9 R x0 x1 x2 o4 n4 c4 d4) ∧ still (vcA_s10 R x0 x1 x2 x3 o4 n4 c4 d4) (aBin EP .eql 61 (.tmp 52) (.const (.int .i64 2)) (.int .i64 (wrapF .i64 (.ofNat x0))) (.int .i64 (.ofNat 2))) = some (.bool false, vcA_s10 R x0 x1 x2 x3 o4 n4 c4 d4) ∧ (M EP (drawA EP) (smP q) 47).call 68 [.ptr (some (2, 0))] (vcA_s11 R x0 x1 x2 x3 o4 n4 c4 d4) = some (.bool dn, vcA_s12 R x0 x1 x2 x3 o4 n4 c4 d4) ∧ ifB dn ((M EP (drawA EP) (smP q) 47).call 69 [.agg [.int .i64 (wrapF .i64 (.ofNat x0)), .int .u64 (.ofNat x1), .int .u64 (.ofNat x2), .int .u64 (.ofNat x3), .int .u64 (.ofNat 0), .slice none 0 (.known 0)]] (vcA_s12 R x0 x1 x2 x3 o4 n4 c4 d4) = some (.bool may, vcA_s12 R x0 x1 x2 x3 o4 n4 c4 d4) ∧ ifB may ((M EP (drawA EP) (smP q) 47).call 70 [.agg [.int .i64 (wrapF .i64 (.ofNat x0)), .int .u64 (.ofNat x1), .int .u64 (.ofNat x2), .int .u64 (.ofNat x3), .int .u64 (.ofNat 0), .slice none 0 (.known 0)]] (vcA_s12 R x0 x1 x2 x3 o4 n4 c4 d4) = some (.slice (some (51, 0)) 31 (.rest 1), vcA_s13 R RP x0 x1 x2 x3 o4 n4 c4 d4) ∧ aConvert EP 25 9 (.slice (some (51, 0)) 31 (.rest 1)) (vcA_s13 R RP x0 x1 x2 x3 o4 n4 c4 d4) = some (.str sa, vcA_s13 R RP x0 x1 x2 x3 o4 n4 c4 d4) ∧ aConvert EP 25 9 (.slice (some (0, 0)) n (.atl n)) (vcA_s13 R RP x0 x1 x2 x3 o4 n4 c4 d4) = some (.str sb, vcA_s13 R RP x0 x1 x2 x3 o4 n4 c4 d4) ∧ still (vcA_s13 R RP x0 x1 x2 x3 o4 n4 c4 d4) (aBin EP .neq 9 (.tmp 71) (.tmp 73) (.str sa) (.str sb)) = some (.bool eq, vcA_s13 R RP x0 x1 x2 x3 o4 n4 c4 d4) ∧ ifB eq (holdsO [(fstO (aConvert EP 25 9 (.slice (some (0, 0)) n (.atl n)) (vcA_s12 R x0 x1 x2 x3 o4 n4 c4 d4)), .str sb)] ∧ Q (.tuple [.agg z6c, .bool false], vcA_s14 R)) (holdsO [(fstO (aConvert EP 25 9 (.slice (some (0, 0)) n (.atl n)) (vcA_s12 R x0 x1 x2 x3 o4 n4 c4 d4)), .str sb)] ∧ Q (.tuple [.agg [.int .i64 (wrapF .i64 (.ofNat x0)), .int .u64 (.ofNat x1), .int .u64 (.ofNat x2), .int .u64 (.ofNat x3), .int .u64 (.ofNat 0), .slice none 0 (.known 0)], .bool true], vcA_s14 R))) (holdsO [(some (.tuple []), .tuple [])] ∧ Q (.tuple [.agg z6c, .bool false], vcA_s15 R))) (holdsO [(some (.tuple []), .tuple [])] ∧ Q (.tuple [.agg z6c, .bool false], vcA_s15 R)))))) =
  (tA q n b0 b1 R RP dn may eq sa sb x0 x1 x2 x3 o1 n1 c1 o2 n2 c2 o3 n3 c3 o4 n4 c4 d1 d2 d3 d4).allY (fun r => Q (r.1, canS [0] r.2)) (.v (.int .i64 (.ofNat n), vcA_s0 R) (.b .nil (.v (.ptr (some (0, 0)), vcA_s0 R) (.v (.int .u8 (.ofNat b0), vcA_s0 R) (.b .nil (.v (.ptr (some (0, 1)), vcA_s0 R) (.v (.int .u8 (.ofNat b1), vcA_s0 R) (.b .nil (.v (.int .i64 (.ofNat n), vcA_s0 R) (.v (.slice (some (0, 2)) (n - 6) (.atl (n - 2)), vcA_s0 R) (.v (.int .u64 (.ofNat x0), vcA_s3 R o1 n1 c1 d1) (.v (.int .u64 (.ofNat x1), vcA_s5 R x0 o2 n2 c2 d2) (.v (.int .u64 (.ofNat x2), vcA_s7 R x0 x1 o3 n3 c3 d3) (.v (.bool false, vcA_s8 R x0 x1 x2 o3 n3 c3 d3) (.v (.bool true, vcA_s8 R x0 x1 x2 o3 n3 c3 d3) (.v (.int .u64 (.ofNat x3), vcA_s9 R x0 x1 x2 o4 n4 c4 d4) (.v (.bool false, vcA_s10 R x0 x1 x2 x3 o4 n4 c4 d4) (.v (.bool dn, vcA_s12 R x0 x1 x2 x3 o4 n4 c4 d4) (.b (.v (.bool may, vcA_s12 R x0 x1 x2 x3 o4 n4 c4 d4) (.b (.v (.slice (some (51, 0)) 31 (.rest 1), vcA_s13 R RP x0 x1 x2 x3 o4 n4 c4 d4) (.v (.str sa, vcA_s13 R RP x0 x1 x2 x3 o4 n4 c4 d4) (.v (.str sb, vcA_s13 R RP x0 x1 x2 x3 o4 n4 c4 d4) (.v (.bool eq, vcA_s13 R RP x0 x1 x2 x3 o4 n4 c4 d4) (.b .nil .nil))))) .nil)) .nil))))))))))))))))))) := by kernel_rfl
noncomputable def vcD_s0 (R : AO) : ASt := mkSt [(0, R), (1, .cells z6c true)] 2
noncomputable def vcD_s1 (R : AO) : ASt := mkSt [(0, R)] 2
noncomputable def vcD_s2 (n : Nat) (R : AO) : ASt := mkSt [(0, R), (1, .cells z6c true), (2, .cells [.slice (some (0, 2)) (n - 6) (.atl (n - 2)), .bool false] true), (3, .cells z6c true)] 4
noncomputable def vcD_s3 (R : AO) (o1 n1 c1 : Nat) (d1 : Bool) : ASt := mkSt [(0, R), (1, .cells z6c true), (2, .cells [.slice (some (0, o1)) n1 (.atl c1), .bool d1] true), (3, .cells z6c true)] 6
noncomputable def vcD_s4 (R : AO) (x0 o1 n1 c1 : Nat) (d1 : Bool) : ASt := mkSt [(0, R), (1, .cells z6c true), (2, .cells [.slice (some (0, o1)) n1 (.atl c1), .bool d1] true), (3, .cells [.int .i64 (wrapF .i64 (.ofNat x0)), .int .u64 (.ofNat 0), .int .u64 (.ofNat 0), .int .u64 (.ofNat 0), .int .u64 (.ofNat 0), .slice none 0 (.known 0)] true)] 6
noncomputable def vcD_s5 (R : AO) (x0 o2 n2 c2 : Nat) (d2 : Bool) : ASt := mkSt [(0, R), (1, .cells z6c true), (2, .cells [.slice (some (0, o2)) n2 (.atl c2), .bool d2] true), (3, .cells [.int .i64 (wrapF .i64 (.ofNat x0)), .int .u64 (.ofNat 0), .int .u64 (.ofNat 0), .int .u64 (.ofNat 0), .int .u64 (.ofNat 0), .slice none 0 (.known 0)] true)] 8
noncomputable def vcD_s6 (R : AO) (x0 x1 o2 n2 c2 : Nat) (d2 : Bool) : ASt := mkSt [(0, R), (1, .cells z6c true), (2, .cells [.slice (some (0, o2)) n2 (.atl c2), .bool d2] true), (3, .cells [.int .i64 (wrapF .i64 (.ofNat x0)), .int .u64 (.ofNat x1), .int .u64 (.ofNat 0), .int .u64 (.ofNat 0), .int .u64 (.ofNat 0), .slice none 0 (.known 0)] true)] 8
noncomputable def vcD_s7 (R : AO) (x0 x1 o3 n3 c3 : Nat) (d3 : Bool) : ASt := mkSt [(0, R), (1, .cells z6c true), (2, .cells [.slice (some (0, o3)) n3 (.atl c3), .bool d3] true), (3, .cells [.int .i64 (wrapF .i64 (.ofNat x0)), .int .u64 (.ofNat x1), .int .u64 (.ofNat 0), .int .u64 (.ofNat 0), .int .u64 (.ofNat 0), .slice none 0 (.known 0)] true)] 10
noncomputable def vcD_s8 (R : AO) (x0 x1 x2 o3 n3 c3 : Nat) (d3 : Bool) : ASt := mkSt [(0, R), (1, .cells z6c true), (2, .cells [.slice (some (0, o3)) n3 (.atl c3), .bool d3] true), (3, .cells [.int .i64 (wrapF .i64 (.ofNat x0)), .int .u64 (.ofNat x1), .int .u64 (.ofNat x2), .int .u64 (.ofNat 0), .int .u64 (.ofNat 0), .slice none 0 (.known 0)] true)] 10
noncomputable def vcD_s9 (R : AO) (x0 x1 x2 o4 n4 c4 : Nat) (d4 : Bool) : ASt := mkSt [(0, R), (1, .cells z6c true), (2, .cells [.slice (some (0, o4)) n4 (.atl c4), .bool d4] true), (3, .cells [.int .i64 (wrapF .i64 (.ofNat x0)), .int .u64 (.ofNat x1), .int .u64 (.ofNat x2), .int .u64 (.ofNat 0), .int .u64 (.ofNat 0), .slice none 0 (.known 0)] true)] 12
noncomputable def vcD_s10 (R : AO) (x0 x1 x2 x3 o4 n4 c4 : Nat) (d4 : Bool) : ASt := mkSt [(0, R), (1, .cells z6c true), (2, .cells [.slice (some (0, o4)) n4 (.atl c4), .bool d4] true), (3, .cells [.int .i64 (wrapF .i64 (.ofNat x0)), .int .u64 (.ofNat x1), .int .u64 (.ofNat x2), .int .u64 (.ofNat x3), .int .u64 (.ofNat 0), .slice none 0 (.known 0)] true)] 12
noncomputable def vcD_s11 (R : AO) (x0 x1 x2 x3 o5 n5 c5 : Nat) (d5 : Bool) : ASt := mkSt [(0, R), (1, .cells z6c true), (2, .cells [.slice (some (0, o5)) n5 (.atl c5), .bool d5] true), (3, .cells [.int .i64 (wrapF .i64 (.ofNat x0)), .int .u64 (.ofNat x1), .int .u64 (.ofNat x2), .int .u64 (.ofNat x3), .int .u64 (.ofNat 0), .slice none 0 (.known 0)] true)] 14
noncomputable def vcD_s12 (R : AO) (x0 x1 x2 x3 x4 o5 n5 c5 : Nat) (d5 : Bool) : ASt := mkSt [(0, R), (1, .cells z6c true), (2, .cells [.slice (some (0, o5)) n5 (.atl c5), .bool d5] true), (3, .cells [.int .i64 (wrapF .i64 (.ofNat x0)), .int .u64 (.ofNat x1), .int .u64 (.ofNat x2), .int .u64 (.ofNat x3), .int .u64 (.ofNat x4), .slice none 0 (.known 0)] true)] 14
noncomputable def vcD_s13 (R : AO) (x0 x1 x2 x3 x4 o6 n6 c6 : Nat) (d6 : Bool) : ASt := mkSt [(0, R), (1, .cells z6c true), (2, .cells [.slice (some (0, o6)) n6 (.atl c6), .bool d6] true), (3, .cells [.int .i64 (wrapF .i64 (.ofNat x0)), .int .u64 (.ofNat x1), .int .u64 (.ofNat x2), .int .u64 (.ofNat x3), .int .u64 (.ofNat x4), .slice none 0 (.known 0)] true)] 16
noncomputable def vcD_s14 (R : AO) (x0 x1 x2 x3 x4 ow nw cw o6 n6 c6 : Nat) (d6 : Bool) : ASt := mkSt [(0, R), (1, .cells z6c true), (2, .cells [.slice (some (0, o6)) n6 (.atl c6), .bool d6] true), (3, .cells [.int .i64 (wrapF .i64 (.ofNat x0)), .int .u64 (.ofNat x1), .int .u64 (.ofNat x2), .int .u64 (.ofNat x3), .int .u64 (.ofNat x4), .slice (some (0, ow)) nw (.atl cw)] true)] 32
noncomputable def vcD_s15 (R : AO) (x0 x1 x2 x3 x4 ow nw cw o6 n6 c6 : Nat) (d6 : Bool) : ASt := mkSt [(0, R), (1, .cells z6c true), (2, .cells [.slice (some (0, o6)) n6 (.atl c6), .bool d6] true), (3, .cells [.int .i64 (wrapF .i64 (.ofNat x0)), .int .u64 (.ofNat x1), .int .u64 (.ofNat x2), .int .u64 (.ofNat x3), .int .u64 (.ofNat x4), .slice (some (0, ow)) nw (.atl cw)] true)] 34
noncomputable def vcD_s16 (R RP : AO) (x0 x1 x2 x3 x4 ow nw cw o6 n6 c6 : Nat) (d6 : Bool) : ASt := mkSt [(0, R), (1, .cells z6c true), (2, .cells [.slice (some (0, o6)) n6 (.atl c6), .bool d6] true), (3, .cells [.int .i64 (wrapF .i64 (.ofNat x0)), .int .u64 (.ofNat x1), .int .u64 (.ofNat x2), .int .u64 (.ofNat x3), .int .u64 (.ofNat x4), .slice (some (0, ow)) nw (.atl cw)] true), (71, RP)] 72
noncomputable def vcD_s17 (R : AO) : ASt := mkSt [(0, R)] 72
noncomputable def vcD_s18 (R : AO) : ASt := mkSt [(0, R)] 34
theorem vcD (q : CallT) (n b0 b1 : Nat) (R RP : AO) (dn may eq : Bool) (sa sb : List Nat) (x0 x1 x2 x3 x4 ow nw cw o1 n1 c1 o2 n2 c2 o3 n3 c3 o4 n4 c4 o5 n5 c5 o6 n6 c6 : Nat) (d1 d2 d3 d4 d5 d6 : Bool) (Q : AV × ASt → Prop) :
  (aBuiltinM EP .len [25] [.slice (some (0, 0)) n (.atl n)] (vcD_s0 R) = some (.int .i64 (.ofNat n), vcD_s0 R) ∧ ifB (ltF (.ofNat n) (.ofNat 23)) (Q (.tuple [.agg z6c, .bool false], vcD_s1 R)) (still (vcD_s0 R) (aIndexAddr EP 25 (.slice (some (0, 0)) n (.atl n)) (.int .i64 (.ofNat 0))) = some (.ptr (some (0, 0)), vcD_s0 R) ∧ aLoad EP 5 (.ptr (some (0, 0))) (vcD_s0 R) = some (.int .u8 (.ofNat b0), vcD_s0 R) ∧ ifB (!eqF (.ofNat b0) (.ofNat 71)) (Q (.tuple [.agg z6c, .bool false], vcD_s1 R)) (still (vcD_s0 R) (aIndexAddr EP 25 (.slice (some (0, 0)) n (.atl n)) (.int .i64 (.ofNat 1))) = some (.ptr (some (0, 1)), vcD_s0 R) ∧ aLoad EP 5 (.ptr (some (0, 1))) (vcD_s0 R) = some (.int .u8 (.ofNat b1), vcD_s0 R) ∧ ifB (!eqF (.ofNat b1) (.ofNat 80)) (Q (.tuple [.agg z6c, .bool false], vcD_s1 R)) (aBuiltinM EP .len [25] [.slice (some (0, 0)) n (.atl n)] (vcD_s0 R) = some (.int .i64 (.ofNat n), vcD_s0 R) ∧ still (vcD_s0 R) (aSlice EP 25 (.slice (some (0, 0)) n (.atl n)) (some (.int .i64 (.ofNat 2))) (some (.int .i64 (wrapF .i64 (.ofNat n - .ofNat 4)))) none (vcD_s0 R)) = some (.slice (some (0, 2)) (n - 6) (.atl (n - 2)), vcD_s0 R) ∧ (M EP (drawA EP) (smP q) 53).call 66 [.ptr (some (2, 0)), .int .i64 (.ofNat 1)] (vcD_s2 n R) = some (.int .u64 (.ofNat x0), vcD_s3 R o1 n1 c1 d1) ∧ (M EP (drawA EP) (smP q) 52).call 66 [.ptr (some (2, 0)), .int .i64 (.ofNat 8)] (vcD_s4 R x0 o1 n1 c1 d1) = some (.int .u64 (.ofNat x1), vcD_s5 R x0 o2 n2 c2 d2) ∧ (M EP (drawA EP) (smP q) 51).call 66 [.ptr (some (2, 0)), .int .i64 (.ofNat 8)] (vcD_s6 R x0 x1 o2 n2 c2 d2) = some (.int .u64 (.ofNat x2), vcD_s7 R x0 x1 o3 n3 c3 d3) ∧ still (vcD_s8 R x0 x1 x2 o3 n3 c3 d3) (aBin EP .eql 61 (.tmp 41) (.const (.int .i64 2)) (.int .i64 (wrapF .i64 (.ofNat x0))) (.int .i64 (.ofNat 2))) = some (.bool true, vcD_s8 R x0 x1 x2 o3 n3 c3 d3) ∧ (M EP (drawA EP) (smP q) 48).call 66 [.ptr (some (2, 0)), .int .i64 (.ofNat 8)] (vcD_s8 R x0 x1 x2 o3 n3 c3 d3) = some (.int .u64 (.ofNat x3), vcD_s9 R x0 x1 x2 o4 n4 c4 d4) ∧ still (vcD_s10 R x0 x1 x2 x3 o4 n4 c4 d4) (aBin EP .eql 61 (.tmp 52) (.const (.int .i64 2)) (.int .i64 (wrapF .i64 (.ofNat x0))) (.int .i64 (.ofNat 2))) = some (.bool true, vcD_s10 R x0 x1 x2 x3 o4 n4 c4 d4) ∧ (M EP (drawA EP) (smP q) 46).call 66 [.ptr (some (2, 0)), .int .i64 (.ofNat 8)] (vcD_s10 R x0 x1 x2 x3 o4 n4 c4 d4) = some (.int .u64 (.ofNat x4), vcD_s11 R x0 x1 x2 x3 o5 n5 c5 d5) ∧ (M EP (drawA EP) (smP q) 46).call 67 [.ptr (some (2, 0))] (vcD_s12 R x0 x1 x2 x3 x4 o5 n5 c5 d5) = some (.slice (some (0, ow)) nw (.atl cw), vcD_s13 R x0 x1 x2 x3 x4 o6 n6 c6 d6) ∧ (M EP (drawA EP) (smP q) 47).call 68 [.ptr (some (2, 0))] (vcD_s14 R x0 x1 x2 x3 x4 ow nw cw o6 n6 c6 d6) = some (.bool dn, vcD_s15 R x0 x1 x2 x3 x4 ow nw cw o6 n6 c6 d6) ∧ ifB dn ((M EP (drawA EP) (smP q) 47).call 69 [.agg [.int .i64 (wrapF .i64 (.ofNat x0)), .int .u64 (.ofNat x1), .int .u64 (.ofNat x2), .int .u64 (.ofNat x3), .int .u64 (.ofNat x4), .slice (some (0, ow)) nw (.atl cw)]] (vcD_s15 R x0 x1 x2 x3 x4 ow nw cw o6 n6 c6 d6) = some (.bool may, vcD_s15 R x0 x1 x2 x3 x4 ow nw cw o6 n6 c6 d6) ∧ ifB may ((M EP (drawA EP) (smP q) 47).call 70 [.agg [.int .i64 (wrapF .i64 (.ofNat x0)), .int .u64 (.ofNat x1), .int .u64 (.ofNat x2), .int .u64 (.ofNat x3), .int .u64 (.ofNat x4), .slice (some (0, ow)) nw (.atl cw)]] (vcD_s15 R x0 x1 x2 x3 x4 ow nw cw o6 n6 c6 d6) = some (.slice (some (71, 0)) (35 + (2 + nw) + 4) (.rest 1), vcD_s16 R RP x0 x1 x2 x3 x4 ow nw cw o6 n6 c6 d6) ∧ aConvert EP 25 9 (.slice (some (71, 0)) (35 + (2 + nw) + 4) (.rest 1)) (vcD_s16 R RP x0 x1 x2 x3 x4 ow nw cw o6 n6 c6 d6) = some (.str sa, vcD_s16 R RP x0 x1 x2 x3 x4 ow nw cw o6 n6 c6 d6) ∧ aConvert EP 25 9 (.slice (some (0, 0)) n (.atl n)) (vcD_s16 R RP x0 x1 x2 x3 x4 ow nw cw o6 n6 c6 d6) = some (.str sb, vcD_s16 R RP x0 x1 x2 x3 x4 ow nw cw o6 n6 c6 d6) ∧ still (vcD_s16 R RP x0 x1 x2 x3 x4 ow nw cw o6 n6 c6 d6) (aBin EP .neq 9 (.tmp 71) (.tmp 73) (.str sa) (.str sb)) = some (.bool eq, vcD_s16 R RP x0 x1 x2 x3 x4 ow nw cw o6 n6 c6 d6) ∧ ifB eq (holdsO [(fstO (aConvert EP 25 9 (.slice (some (0, 0)) n (.atl n)) (vcD_s15 R x0 x1 x2 x3 x4 ow nw cw o6 n6 c6 d6)), .str sb)] ∧ Q (.tuple [.agg z6c, .bool false], vcD_s17 R)) (holdsO [(fstO (aConvert EP 25 9 (.slice (some (0, 0)) n (.atl n)) (vcD_s15 R x0 x1 x2 x3 x4 ow nw cw o6 n6 c6 d6)), .str sb)] ∧ Q (.tuple [.agg [.int .i64 (wrapF .i64 (.ofNat x0)), .int .u64 (.ofNat x1), .int .u64 (.ofNat x2), .int .u64 (.ofNat x3), .int .u64 (.ofNat x4), .slice (some (0, ow)) nw (.atl cw)], .bool true], vcD_s17 R))) (holdsO [(some (.tuple []), .tuple [])] ∧ Q (.tuple [.agg z6c, .bool false], vcD_s18 R))) (holdsO [(some (.tuple []), .tuple [])] ∧ Q (.tuple [.agg z6c, .bool false], vcD_s18 R)))))) =
  (tD q n b0 b1 R RP dn may eq sa sb x0 x1 x2 x3 x4 ow nw cw o1 n1 c1 o2 n2 c2 o3 n3 c3 o4 n4 c4 o5 n5 c5 o6 n6 c6 d1 d2 d3 d4 d5 d6).allY (fun r => Q (r.1, canS [0] r.2)) (.v (.int .i64 (.ofNat n), vcD_s0 R) (.b .nil (.v (.ptr (some (0, 0)), vcD_s0 R) (.v (.int .u8 (.ofNat b0), vcD_s0 R) (.b .nil (.v (.ptr (some (0, 1)), vcD_s0 R) (.v (.int .u8 (.ofNat b1), vcD_s0 R) (.b .nil (.v (.int .i64 (.ofNat n), vcD_s0 R) (.v (.slice (some (0, 2)) (n - 6) (.atl (n - 2)), vcD_s0 R) (.v (.int .u64 (.ofNat x0), vcD_s3 R o1 n1 c1 d1) (.v (.int .u64 (.ofNat x1), vcD_s5 R x0 o2 n2 c2 d2) (.v (.int .u64 (.ofNat x2), vcD_s7 R x0 x1 o3 n3 c3 d3) (.v (.bool true, vcD_s8 R x0 x1 x2 o3 n3 c3 d3) (.v (.int .u64 (.ofNat x3), vcD_s9 R x0 x1 x2 o4 n4 c4 d4) (.v (.bool true, vcD_s10 R x0 x1 x2 x3 o4 n4 c4 d4) (.v (.int .u64 (.ofNat x4), vcD_s11 R x0 x1 x2 x3 o5 n5 c5 d5) (.v (.slice (some (0, ow)) nw (.atl cw), vcD_s13 R x0 x1 x2 x3 x4 o6 n6 c6 d6) (.v (.bool dn, vcD_s15 R x0 x1 x2 x3 x4 ow nw cw o6 n6 c6 d6) (.b (.v (.bool may, vcD_s15 R x0 x1 x2 x3 x4 ow nw cw o6 n6 c6 d6) (.b (.v (.slice (some (71, 0)) (35 + (2 + nw) + 4) (.rest 1), vcD_s16 R RP x0 x1 x2 x3 x4 ow nw cw o6 n6 c6 d6) (.v (.str sa, vcD_s16 R RP x0 x1 x2 x3 x4 ow nw cw o6 n6 c6 d6) (.v (.str sb, vcD_s16 R RP x0 x1 x2 x3 x4 ow nw cw o6 n6 c6 d6) (.v (.bool eq, vcD_s16 R RP x0 x1 x2 x3 x4 ow nw cw o6 n6 c6 d6) (.b .nil .nil))))) .nil)) .nil)))))))))))))))))))) := by kernel_rfl
noncomputable def vcN_s0 (R : AO) : ASt := mkSt [(0, R), (1, .cells z6c true)] 2
noncomputable def vcN_s1 (R : AO) : ASt := mkSt [(0, R)] 2
noncomputable def vcN_s2 (n : Nat) (R : AO) : ASt := mkSt [(0, R), (1, .cells z6c true), (2, .cells [.slice (some (0, 2)) (n - 6) (.atl (n - 2)), .bool false] true), (3, .cells z6c true)] 4
noncomputable def vcN_s3 (R : AO) (o1 n1 c1 : Nat) (d1 : Bool) : ASt := mkSt [(0, R), (1, .cells z6c true), (2, .cells [.slice (some (0, o1)) n1 (.atl c1), .bool d1] true), (3, .cells z6c true)] 6
noncomputable def vcN_s4 (R : AO) (x0 o1 n1 c1 : Nat) (d1 : Bool) : ASt := mkSt [(0, R), (1, .cells z6c true), (2, .cells [.slice (some (0, o1)) n1 (.atl c1), .bool d1] true), (3, .cells [.int .i64 (wrapF .i64 (.ofNat x0)), .int .u64 (.ofNat 0), .int .u64 (.ofNat 0), .int .u64 (.ofNat 0), .int .u64 (.ofNat 0), .slice none 0 (.known 0)] true)] 6
noncomputable def vcN_s5 (R : AO) (x0 o2 n2 c2 : Nat) (d2 : Bool) : ASt := mkSt [(0, R), (1, .cells z6c true), (2, .cells [.slice (some (0, o2)) n2 (.atl c2), .bool d2] true), (3, .cells [.int .i64 (wrapF .i64 (.ofNat x0)), .int .u64 (.ofNat 0), .int .u64 (.ofNat 0), .int .u64 (.ofNat 0), .int .u64 (.ofNat 0), .slice none 0 (.known 0)] true)] 8
noncomputable def vcN_s6 (R : AO) (x0 x1 o2 n2 c2 : Nat) (d2 : Bool) : ASt := mkSt [(0, R), (1, .cells z6c true), (2, .cells [.slice (some (0, o2)) n2 (.atl c2), .bool d2] true), (3, .cells [.int .i64 (wrapF .i64 (.ofNat x0)), .int .u64 (.ofNat x1), .int .u64 (.ofNat 0), .int .u64 (.ofNat 0), .int .u64 (.ofNat 0), .slice none 0 (.known 0)] true)] 8
noncomputable def vcN_s7 (R : AO) (x0 x1 o3 n3 c3 : Nat) (d3 : Bool) : ASt := mkSt [(0, R), (1, .cells z6c true), (2, .cells [.slice (some (0, o3)) n3 (.atl c3), .bool d3] true), (3, .cells [.int .i64 (wrapF .i64 (.ofNat x0)), .int .u64 (.ofNat x1), .int .u64 (.ofNat 0), .int .u64 (.ofNat 0), .int .u64 (.ofNat 0), .slice none 0 (.known 0)] true)] 10
noncomputable def vcN_s8 (R : AO) (x0 x1 x2 o3 n3 c3 : Nat) (d3 : Bool) : ASt := mkSt [(0, R), (1, .cells z6c true), (2, .cells [.slice (some (0, o3)) n3 (.atl c3), .bool d3] true), (3, .cells [.int .i64 (wrapF .i64 (.ofNat x0)), .int .u64 (.ofNat x1), .int .u64 (.ofNat x2), .int .u64 (.ofNat 0), .int .u64 (.ofNat 0), .slice none 0 (.known 0)] true)] 10
noncomputable def vcN_s9 (R : AO) (x0 x1 x2 o4 n4 c4 : Nat) (d4 : Bool) : ASt := mkSt [(0, R), (1, .cells z6c true), (2, .cells [.slice (some (0, o4)) n4 (.atl c4), .bool d4] true), (3, .cells [.int .i64 (wrapF .i64 (.ofNat x0)), .int .u64 (.ofNat x1), .int .u64 (.ofNat x2), .int .u64 (.ofNat 0), .int .u64 (.ofNat 0), .slice none 0 (.known 0)] true)] 12
noncomputable def vcN_s10 (R : AO) (x0 x1 x2 x3 o4 n4 c4 : Nat) (d4 : Bool) : ASt := mkSt [(0, R), (1, .cells z6c true), (2, .cells [.slice (some (0, o4)) n4 (.atl c4), .bool d4] true), (3, .cells [.int .i64 (wrapF .i64 (.ofNat x0)), .int .u64 (.ofNat x1), .int .u64 (.ofNat x2), .int .u64 (.ofNat x3), .int .u64 (.ofNat 0), .slice none 0 (.known 0)] true)] 12
noncomputable def vcN_s11 (R : AO) (x0 x1 x2 x3 o5 n5 c5 : Nat) (d5 : Bool) : ASt := mkSt [(0, R), (1, .cells z6c true), (2, .cells [.slice (some (0, o5)) n5 (.atl c5), .bool d5] true), (3, .cells [.int .i64 (wrapF .i64 (.ofNat x0)), .int .u64 (.ofNat x1), .int .u64 (.ofNat x2), .int .u64 (.ofNat x3), .int .u64 (.ofNat 0), .slice none 0 (.known 0)] true)] 14
noncomputable def vcN_s12 (R : AO) (x0 x1 x2 x3 x4 o5 n5 c5 : Nat) (d5 : Bool) : ASt := mkSt [(0, R), (1, .cells z6c true), (2, .cells [.slice (some (0, o5)) n5 (.atl c5), .bool d5] true), (3, .cells [.int .i64 (wrapF .i64 (.ofNat x0)), .int .u64 (.ofNat x1), .int .u64 (.ofNat x2), .int .u64 (.ofNat x3), .int .u64 (.ofNat x4), .slice none 0 (.known 0)] true)] 14
noncomputable def vcN_s13 (R : AO) (x0 x1 x2 x3 x4 o6 n6 c6 : Nat) (d6 : Bool) : ASt := mkSt [(0, R), (1, .cells z6c true), (2, .cells [.slice (some (0, o6)) n6 (.atl c6), .bool d6] true), (3, .cells [.int .i64 (wrapF .i64 (.ofNat x0)), .int .u64 (.ofNat x1), .int .u64 (.ofNat x2), .int .u64 (.ofNat x3), .int .u64 (.ofNat x4), .slice none 0 (.known 0)] true)] 16
noncomputable def vcN_s14 (R : AO) (x0 x1 x2 x3 x4 o6 n6 c6 : Nat) (d6 : Bool) : ASt := mkSt [(0, R), (1, .cells z6c true), (2, .cells [.slice (some (0, o6)) n6 (.atl c6), .bool d6] true), (3, .cells [.int .i64 (wrapF .i64 (.ofNat x0)), .int .u64 (.ofNat x1), .int .u64 (.ofNat x2), .int .u64 (.ofNat x3), .int .u64 (.ofNat x4), .slice none 0 (.known 0)] true)] 32
noncomputable def vcN_s15 (R : AO) (x0 x1 x2 x3 x4 o6 n6 c6 : Nat) (d6 : Bool) : ASt := mkSt [(0, R), (1, .cells z6c true), (2, .cells [.slice (some (0, o6)) n6 (.atl c6), .bool d6] true), (3, .cells [.int .i64 (wrapF .i64 (.ofNat x0)), .int .u64 (.ofNat x1), .int .u64 (.ofNat x2), .int .u64 (.ofNat x3), .int .u64 (.ofNat x4), .slice none 0 (.known 0)] true)] 34
noncomputable def vcN_s16 (R : AO) : ASt := mkSt [(0, R)] 34
theorem vcN (q : CallT) (n b0 b1 : Nat) (R RP : AO) (dn may eq : Bool) (sa sb : List Nat) (x0 x1 x2 x3 x4 o1 n1 c1 o2 n2 c2 o3 n3 c3 o4 n4 c4 o5 n5 c5 o6 n6 c6 : Nat) (d1 d2 d3 d4 d5 d6 : Bool) (Q : AV × ASt → Prop) :
  (aBuiltinM EP .len [25] [.slice (some (0, 0)) n (.atl n)] (vcN_s0 R) = some (.int .i64 (.ofNat n), vcN_s0 R) ∧ ifB (ltF (.ofNat n) (.ofNat 23)) (Q (.tuple [.agg z6c, .bool false], vcN_s1 R)) (still (vcN_s0 R) (aIndexAddr EP 25 (.slice (some (0, 0)) n (.atl n)) (.int .i64 (.ofNat 0))) = some (.ptr (some (0, 0)), vcN_s0 R) ∧ aLoad EP 5 (.ptr (some (0, 0))) (vcN_s0 R) = some (.int .u8 (.ofNat b0), vcN_s0 R) ∧ ifB (!eqF (.ofNat b0) (.ofNat 71)) (Q (.tuple [.agg z6c, .bool false], vcN_s1 R)) (still (vcN_s0 R) (aIndexAddr EP 25 (.slice (some (0, 0)) n (.atl n)) (.int .i64 (.ofNat 1))) = some (.ptr (some (0, 1)), vcN_s0 R) ∧ aLoad EP 5 (.ptr (some (0, 1))) (vcN_s0 R) = some (.int .u8 (.ofNat b1), vcN_s0 R) ∧ ifB (!eqF (.ofNat b1) (.ofNat 80)) (Q (.tuple [.agg z6c, .bool false], vcN_s1 R)) (aBuiltinM EP .len [25] [.slice (some (0, 0)) n (.atl n)] (vcN_s0 R) = some (.int .i64 (.ofNat n), vcN_s0 R) ∧ still (vcN_s0 R) (aSlice EP 25 (.slice (some (0, 0)) n (.atl n)) (some (.int .i64 (.ofNat 2))) (some (.int .i64 (wrapF .i64 (.ofNat n - .ofNat 4)))) none (vcN_s0 R)) = some (.slice (some (0, 2)) (n - 6) (.atl (n - 2)), vcN_s0 R) ∧ (M EP (drawA EP) (smP q) 53).call 66 [.ptr (some (2, 0)), .int .i64 (.ofNat 1)] (vcN_s2 n R) = some (.int .u64 (.ofNat x0), vcN_s3 R o1 n1 c1 d1) ∧ (M EP (drawA EP) (smP q) 52).call 66 [.ptr (some (2, 0)), .int .i64 (.ofNat 8)] (vcN_s4 R x0 o1 n1 c1 d1) = some (.int .u64 (.ofNat x1), vcN_s5 R x0 o2 n2 c2 d2) ∧ (M EP (drawA EP) (smP q) 51).call 66 [.ptr (some (2, 0)), .int .i64 (.ofNat 8)] (vcN_s6 R x0 x1 o2 n2 c2 d2) = some (.int .u64 (.ofNat x2), vcN_s7 R x0 x1 o3 n3 c3 d3) ∧ still (vcN_s8 R x0 x1 x2 o3 n3 c3 d3) (aBin EP .eql 61 (.tmp 41) (.const (.int .i64 2)) (.int .i64 (wrapF .i64 (.ofNat x0))) (.int .i64 (.ofNat 2))) = some (.bool true, vcN_s8 R x0 x1 x2 o3 n3 c3 d3) ∧ (M EP (drawA EP) (smP q) 48).call 66 [.ptr (some (2, 0)), .int .i64 (.ofNat 8)] (vcN_s8 R x0 x1 x2 o3 n3 c3 d3) = some (.int .u64 (.ofNat x3), vcN_s9 R x0 x1 x2 o4 n4 c4 d4) ∧ still (vcN_s10 R x0 x1 x2 x3 o4 n4 c4 d4) (aBin EP .eql 61 (.tmp 52) (.const (.int .i64 2)) (.int .i64 (wrapF .i64 (.ofNat x0))) (.int .i64 (.ofNat 2))) = some (.bool true, vcN_s10 R x0 x1 x2 x3 o4 n4 c4 d4) ∧ (M EP (drawA EP) (smP q) 46).call 66 [.ptr (some (2, 0)), .int .i64 (.ofNat 8)] (vcN_s10 R x0 x1 x2 x3 o4 n4 c4 d4) = some (.int .u64 (.ofNat x4), vcN_s11 R x0 x1 x2 x3 o5 n5 c5 d5) ∧ (M EP (drawA EP) (smP q) 46).call 67 [.ptr (some (2, 0))] (vcN_s12 R x0 x1 x2 x3 x4 o5 n5 c5 d5) = some (.slice none 0 (.known 0), vcN_s13 R x0 x1 x2 x3 x4 o6 n6 c6 d6) ∧ (M EP (drawA EP) (smP q) 47).call 68 [.ptr (some (2, 0))] (vcN_s14 R x0 x1 x2 x3 x4 o6 n6 c6 d6) = some (.bool false, vcN_s15 R x0 x1 x2 x3 x4 o6 n6 c6 d6) ∧ holdsO [(some (.tuple []), .tuple [])] ∧ Q (.tuple [.agg z6c, .bool false], vcN_s16 R))))) =
  (tN q n b0 b1 R RP dn may eq sa sb x0 x1 x2 x3 x4 o1 n1 c1 o2 n2 c2 o3 n3 c3 o4 n4 c4 o5 n5 c5 o6 n6 c6 d1 d2 d3 d4 d5 d6).allY (fun r => Q (r.1, canS [0] r.2)) (.v (.int .i64 (.ofNat n), vcN_s0 R) (.b .nil (.v (.ptr (some (0, 0)), vcN_s0 R) (.v (.int .u8 (.ofNat b0), vcN_s0 R) (.b .nil (.v (.ptr (some (0, 1)), vcN_s0 R) (.v (.int .u8 (.ofNat b1), vcN_s0 R) (.b .nil (.v (.int .i64 (.ofNat n), vcN_s0 R) (.v (.slice (some (0, 2)) (n - 6) (.atl (n - 2)), vcN_s0 R) (.v (.int .u64 (.ofNat x0), vcN_s3 R o1 n1 c1 d1) (.v (.int .u64 (.ofNat x1), vcN_s5 R x0 o2 n2 c2 d2) (.v (.int .u64 (.ofNat x2), vcN_s7 R x0 x1 o3 n3 c3 d3) (.v (.bool true, vcN_s8 R x0 x1 x2 o3 n3 c3 d3) (.v (.int .u64 (.ofNat x3), vcN_s9 R x0 x1 x2 o4 n4 c4 d4) (.v (.bool true, vcN_s10 R x0 x1 x2 x3 o4 n4 c4 d4) (.v (.int .u64 (.ofNat x4), vcN_s11 R x0 x1 x2 x3 o5 n5 c5 d5) (.v (.slice none 0 (.known 0), vcN_s13 R x0 x1 x2 x3 x4 o6 n6 c6 d6) (.v (.bool false, vcN_s15 R x0 x1 x2 x3 x4 o6 n6 c6 d6) (.b .nil .nil)))))))))))))))))))) := by kernel_rfl
end Go.Proofs.Ytlnohbilfogheaa.rof
end

section
open Go Go.Ax Go.Proofs.Ytlnohbilfogheaa Go.Proofs.Ytlnohbilfogheaa.pof
namespace Go.Proofs.Ytlnohbilfogheaa.rof
open Go.Proofs.Ytlnohbilfogheaa.rdr (fl0 nI nilV beN AtS getD_lt beN_lt)
open Go.Proofs.Ytlnohbilfogheaa.rrd (rr slR rO rB numR rrIn)
set_option linter.unusedVariables false
theorem EPok : Env.Ok Try.prog EP := envEx_ok (xs := []) ⟨⟨Try.func26, Try.call26⟩, ⟨Try.func66, Try.call66⟩, ⟨Try.func67, Try.call67⟩, ⟨Try.func68, Try.call68⟩, ⟨Try.func69, Try.call69⟩, ⟨Try.func70, Try.call70⟩, trivial⟩ trivial (by kernel_rfl)
noncomputable def qR (tab : List (Nat × List AV × ASt × (AV × ASt))) : CallT := tabC tab
theorem qR_ok {tab : List (Nat × List AV × ASt × (AV × ASt))} (h : ∀ e, e ∈ tab → Call1 Try.prog e.1 e.2.1 e.2.2.1 e.2.2.2) : CallsOK Try.prog (smP (qR tab)) := onlyC_ok (tabC_ok h)
theorem at_tab {tab : List (Nat × List AV × ASt × (AV × ASt))} {f j : Nat} {args : List AV} {S : ASt} {r : AV × ASt} (hm : memN f [66, 67, 68, 69, 70] = true) (h : tabC tab f args S = some r) : (M EP (drawA EP) (smP (qR tab)) (j + 1)).call f args S = some r :=
  call_at (onlyC_at hm h)
theorem conv {S : ASt} {v : AV} {l : List Nat} (h : SlB S v l) (hb : ∀ x, x ∈ l → x < 256) : aConvert EP 25 9 v S = some (.str l, S) := by
  cases h with
  | nil => kernel_rfl
  | zero => kernel_rfl
  | @row i o n c cs rw _ h1 h2 =>
    have e : aConvert EP 25 9 (.slice (some (i, o)) n c) S = (match S.h.get i with
      | some (.cells cs _) => match takeL cs o n with | some l => (match bytesL l with | some b => some (.str b, S) | none => none) | none => none
      | _ => none) := by kernel_rfl
    rw [e]
    simp only [h1, h2, bytesL_U l hb]
theorem neq_str {S : ASt} (a b : List Nat) : still S (aBin EP .neq 9 (.tmp 71) (.tmp 73) (.str a) (.str b)) = some (.bool (!(a == b)), S) := by
  refine still_of ?_
  show some (AV.bool (!lEq a b)) = _
  rw [lEq_eq]
theorem eql_int {S : ASt} {t : Nat} {c : Int} (z : Int) {b : Bool} (h : eqF z c = b) : still S (aBin EP .eql 61 (.tmp t) (.const (.int .i64 c)) (.int .i64 z) (.int .i64 c)) = some (.bool b, S) := by
  subst h
  exact still_of (by kernel_rfl)
theorem sl25 : sliceT EP 25 = some 1 := by kernel_rfl
theorem cell5 : cellT EP 5 = true := by kernel_rfl
theorem nat_sub4 {n : Nat} (h : 4 ≤ n) (hn : n < 1099511627776) : wrapF .i64 (Int.ofNat n - Int.ofNat 4) = .ofNat (n - 4) := by
  have e : Int.ofNat n - Int.ofNat 4 = Int.ofNat (n - 4) := by
    show (n : Int) - (4 : Int) = ((n - 4 : Nat) : Int)
    omega
  rw [e, wrap_nat (by omega)]
theorem may_eq (k m t a s : Int) (n : Nat) : rmy.mayR k m t a s n = pkb.mayB k m t a s n := by
  have nn : eqF (.ofNat n) (.ofNat 0) = Nat.beq n 0 := by
    cases n with
    | zero => rfl
    | succ n => exact nf (by omega)
  unfold rmy.mayR rmy.may3 pkb.mayB
  rw [nn]
  by_cases k1 : k < 1
  · have h1 : ltF k (.ofNat 1) = true := by rw [ltF_eq]; exact decide_eq_true k1
    have e1 : eqF k (.ofNat 1) = false := by rw [eqF_eq]; exact decide_eq_false (by show ¬ k = 1; omega)
    have e2 : eqF k (.ofNat 2) = false := by rw [eqF_eq]; exact decide_eq_false (by show ¬ k = 2; omega)
    have e3 : eqF k (.ofNat 3) = false := by rw [eqF_eq]; exact decide_eq_false (by show ¬ k = 3; omega)
    have e4 : eqF k (.ofNat 4) = false := by rw [eqF_eq]; exact decide_eq_false (by show ¬ k = 4; omega)
    rw [h1, e1, e2, e3, e4]
    cases eqF m (.ofNat 0) <;> cases eqF t (.ofNat 0) <;> rfl
  · have h1 : ltF k (.ofNat 1) = false := by rw [ltF_eq]; exact decide_eq_false k1
    by_cases k4 : 4 < k
    · have h4 : ltF (.ofNat 4) k = true := by rw [ltF_eq]; exact decide_eq_true k4
      have e1 : eqF k (.ofNat 1) = false := by rw [eqF_eq]; exact decide_eq_false (by show ¬ k = 1; omega)
      have e2 : eqF k (.ofNat 2) = false := by rw [eqF_eq]; exact decide_eq_false (by show ¬ k = 2; omega)
      have e3 : eqF k (.ofNat 3) = false := by rw [eqF_eq]; exact decide_eq_false (by show ¬ k = 3; omega)
      have e4 : eqF k (.ofNat 4) = false := by rw [eqF_eq]; exact decide_eq_false (by show ¬ k = 4; omega)
      rw [h1, h4, e1, e2, e3, e4]
      cases eqF m (.ofNat 0) <;> cases eqF t (.ofNat 0) <;> rfl
    · have h4 : ltF (.ofNat 4) k = false := by rw [ltF_eq]; exact decide_eq_false k4
      have hk : k = 1 ∨ k = 2 ∨ k = 3 ∨ k = 4 := by omega
      rcases hk with rfl | rfl | rfl | rfl <;> rw [h1, h4]
      · cases eqF m (.ofNat 0) <;> cases eqF t (.ofNat 0) <;> cases eqF a (.ofNat 0) <;> cases eqF s (.ofNat 0) <;> cases Nat.beq n 0 <;> rfl
      · cases eqF m (.ofNat 0) <;> cases eqF t (.ofNat 0) <;> cases ltF (.ofNat 0) s <;> cases ltF (.ofNat n) (.ofNat 1) <;> cases ltF (.ofNat 4000) (.ofNat n) <;> rfl
      · cases eqF m (.ofNat 0) <;> cases eqF t (.ofNat 0) <;> cases eqF a (.ofNat 0) <;> cases eqF s (.ofNat 0) <;> cases Nat.beq n 0 <;> rfl
      · cases eqF m (.ofNat 0) <;> cases eqF t (.ofNat 0) <;> cases eqF a (.ofNat 0) <;> cases eqF s (.ofNat 0) <;> cases Nat.beq n 0 <;> rfl
section
variable {S : ASt} {v : AV} {l : List Nat} {k m t a s : Nat}
theorem may_any (h : SlB S v l) : Call1 Try.prog 69 [pof.pV k m t a s v] S (.bool (pkb.mayB (.ofNat k) (.ofNat m) (.ofNat t) (.ofNat a) (.ofNat s) l.length), S) := by
  obtain ⟨v1, o, r, A⟩ := h.ro 0
  have hm := rmy.mayRun (k := .ofNat k) (m := .ofNat m) (t := .ofNat t) (a := .ofNat a) (s := .ofNat s) A
  rw [may_eq] at hm
  refine Call1.ro (S1 := mkSt [(0, o)] 1) (os := [o]) (args1 := [pof.pV k m t a s v1]) (fun B w0 ι w args' _ hsr hv => ?_) (by simp [refsV]) ⟨pky.pR h r A, trivial⟩ rfl fun j x hj => ?_
  · obtain ⟨g1, g2⟩ := hm B w0 ι w args' hsr hv
    exact ⟨g1, g2.mono fun e w' ⟨v, hv, hp⟩ => ⟨v, by rw [hv], hp⟩⟩
  · have hg : (mkSt [(0, o)] 1).h.get j = if j = 0 then some o else none := by
      show ((T.e : T AO).set D 0 _).get j = _
      rw [T.get_set, T.get_e]
    rw [hg] at hj
    by_cases e : j = 0
    · subst e; simp at hj; subst hj; rfl
    · simp [e] at hj
end
section
variable {l : List Nat}
noncomputable def pkA (l : List Nat) : AV := bif Nat.beq (x0 l) 2 then pof.pV 2 (x1 l) (x2 l) (x3 l) (x4 l) (slR 37 (nP l) (l.length - 37)) else bif Nat.beq (x0 l) 3 then pof.pV 3 (x1 l) (x2 l) (x3 l) 0 nilV else pof.pV (x0 l) (x1 l) (x2 l) 0 0 nilV
open Classical in
noncomputable def resR (l : List Nat) : AV := if good l then .tuple [pkA l, .bool true] else .tuple [zP, .bool false]
def EndsR (l : List Nat) (r : AV × ASt) : Prop := ∃ nx, nx ≤ 72 ∧ r = (resR l, mkSt [(0, R0 l)] nx)
def RunsR (l : List Nat) : Prop := ∀ B w0 ι w args', SR B w0 ι (mkSt [(0, R0 l)] 1) w → VRs ι [.slice (some (0, 0)) l.length (.atl l.length)] args' →
  (callFunc 26 args').run Try.prog w = .ok (.enter 26 args') w ∧ CallsIn Fence.wide 0 Try.prog 26 args' w fun e w' => ∃ v, EndsR l v ∧ Post B w0 ι v e w'
theorem failR {nx : Nat} (hn : nx ≤ 72) (h : ¬ good l) : EndsR l (.tuple [zP, .bool false], mkSt [(0, R0 l)] nx) := ⟨nx, hn, by unfold resR; rw [if_neg h]⟩
theorem goodR {nx : Nat} {v : AV} (hn : nx ≤ 72) (h : good l) (hv : v = pkA l) : EndsR l (.tuple [v, .bool true], mkSt [(0, R0 l)] nx) := ⟨nx, hn, by subst hv; unfold resR; rw [if_pos h]⟩
def aA (l : List Nat) : AV := .slice (some (0, 0)) l.length (.atl l.length)
theorem lenA (S : ASt) : aBuiltinM EP .len [25] [aA l] S = some (nI l.length, S) := (SlArg.row sl25 (cs := l.map cellU)).len S
theorem ldA {S : ASt} {k : Nat} (hS : S.h.get 0 = some (R0 l)) (hk : k < l.length) : aLoad EP 5 (.ptr (some (0, k))) S = some (.int .u8 (.ofNat (l.getD k 0)), S) := by
  refine load_at (cs := l.map cellU) (rw := false) cell5 hS ?_
  rw [List.getElem?_map, List.getD_eq_getElem?_getD, List.getElem?_eq_getElem hk]; rfl
theorem slA {S : ASt} (h : 23 ≤ l.length) (hl : l.length < 1099511627776) : still S (aSlice EP 25 (aA l) (some (nI 2)) (some (.int .i64 (wrapF .i64 (Int.ofNat l.length - Int.ofNat 4)))) none S) = some (slR 2 (l.length - 6) (l.length - 2), S) := by
  refine still_of ?_
  rw [nat_sub4 (by omega) hl]
  have e3 : aSlice EP 25 (aA l) (some (nI 2)) (some (nI (l.length - 4))) none S =
    (match aBounds l.length (Nat.max l.length l.length) (some 2) (some (l.length - 4)) none with
      | some (a, h, m) => (bif Nat.blt a (Nat.max l.length l.length) then some (.slice (some (0, 0 + a * 1)) (h - a) (.atl (Nat.max l.length l.length - a))) else bif Nat.beq a 0 then some (.slice (some (0, 0)) 0 (.atl 0)) else some .slice0) | none => none) := by kernel_rfl
  have e : Nat.max l.length l.length = l.length := Nat.max_self _
  have e4 : aBounds l.length (Nat.max l.length l.length) (some 2) (some (l.length - 4)) none = some (2, l.length - 4, l.length) := by
    rw [e]
    unfold aBounds
    simp only [ble_t (show 2 ≤ l.length - 4 by omega), ble_t (show l.length - 4 ≤ l.length by omega), cond_true]
  show aSlice EP 25 (aA l) (some (nI 2)) (some (nI (l.length - 4))) none S = _
  rw [e3, e4]
  simp only [e, blt_t (show 2 < l.length by omega), cond_true]
  show some (AV.slice (some (0, 2)) (l.length - 4 - 2) (.atl (l.length - 2))) = _
  rw [show l.length - 4 - 2 = l.length - 6 by omega]
  rfl
theorem atQ {f o o' nx : Nat} {bad bad' : Bool} {ex : List AV} {v v' : AV} {p : AO} (h0 : l ≠ []) (hex : ∀ c, c ∈ ex → refsV 0 c)
    (h : AtS Try.prog f (.ptr (some (1, 0)) :: ex) (rrd.stE l o bad) (v, rrd.stE l o' bad')) (hvm : ∀ g : Nat → Nat, g 0 = 0 → mapV g v = v') (hn : 2 < nx) :
    Call1 Try.prog f (.ptr (some (2, 0)) :: ex) (mQ (R0 l) o (l.length - 4 - o) (l.length - o) bad p nx) (v', mQ (R0 l) o' (l.length - 4 - o') (l.length - o') bad' p (nx + 2)) :=
  pof.to1 (rrd.atRow (i := 2) (r := 0) (rw := false) (S := mQ (R0 l) o (l.length - 4 - o) (l.length - o) bad p nx) h0 hex h hvm (by kernel_rfl) (by kernel_rfl) (by decide) hn (by show 0 < nx; omega)) rfl (by kernel_rfl)
theorem r_ok {o s : Nat} (h : s ≤ l.length - 4 - o) : rB l o false s = false ∧ rO l o false s = o + s := by
  have h' : Nat.blt (l.length - 4 - o) s = false := blt_f h
  exact ⟨h', by show (bif Nat.blt (l.length - 4 - o) s then o else o + s) = o + s; rw [h']; rfl⟩
theorem r_inv {o s : Nat} {bad : Bool} (h : rB l o bad s = false) : bad = false ∧ s ≤ l.length - 4 - o ∧ rO l o bad s = o + s := by
  cases bad with
  | true => cases h
  | false =>
    have h' : Nat.blt (l.length - 4 - o) s = false := h
    refine ⟨rfl, ?_, ?_⟩
    · cases Nat.lt_or_ge (l.length - 4 - o) s with
      | inl g => rw [blt_t g] at h'; cases h'
      | inr g => exact g
    · show (bif Nat.blt (l.length - 4 - o) s then o else o + s) = o + s
      rw [h']; rfl
theorem numR_ok {o k : Nat} {bad : Bool} (h : rB l o bad k = false) : numR l o bad k = beN l o k := by unfold numR; rw [h]; rfl
theorem numR_lt {o k : Nat} {bad : Bool} (hB : ∀ x, x ∈ l → x < 256) (hk : k ≤ 8) : numR l o bad k < 256 ^ k := by
  unfold numR
  cases rB l o bad k
  · exact beN_lt (fun i => getD_lt hB) k hk
  · exact Nat.pow_pos (by omega)
theorem beN8 {o : Nat} (hB : ∀ x, x ∈ l → x < 256) : beN l o 8 < 18446744073709551616 := beN_lt (fun i => getD_lt hB) 8 (by decide)
theorem good_marks (h : good l) : l.getD 0 0 = 71 ∧ l.getD 1 0 = 80 := by
  have := good_mark h
  match l, this with
  | a :: b :: r, this => simp at this; exact this
  | [a], this => simp at this
  | [], this => simp at this
end
end Go.Proofs.Ytlnohbilfogheaa.rof
end

section
open Go Go.Ax Go.Proofs.Ytlnohbilfogheaa Go.Proofs.Ytlnohbilfogheaa.pof
namespace Go.Proofs.Ytlnohbilfogheaa.rof
open Go.Proofs.Ytlnohbilfogheaa.rdr (fl0 nI nilV beN AtS getD_lt beN_lt)
open Go.Proofs.Ytlnohbilfogheaa.rrd (rr slR rO rB numR rrIn)
set_option linter.unusedVariables false
section
variable {l : List Nat}
theorem short (hl : l.length < 23) : ¬ good l := fun g => by have := good_len g; omega
theorem runO (h0 : l ≠ []) (hB : ∀ x, x ∈ l → x < 256) (hl : l.length ≤ 9000) (h23 : 23 ≤ l.length) (k2 : x0 l ≠ 2) (k3 : x0 l ≠ 3) : RunsR l := by
  have h4 : 4 ≤ l.length := by omega
  have e6 : l.length - 6 = l.length - 4 - 2 := by omega
  have xl : x0 l < 256 := beN_lt (fun i => getD_lt hB) 1 (by decide)
  have hw : wrapF .i64 (.ofNat (x0 l)) = .ofNat (x0 l) := wrap_nat (by omega)
  have q2 : eqF (wrapF .i64 (.ofNat (x0 l))) (.ofNat 2) = false := by rw [hw]; exact nf k2
  have q3 : eqF (wrapF .i64 (.ofNat (x0 l))) (.ofNat 3) = false := by rw [hw]; exact nf k3
  obtain ⟨g1, r1⟩ := r_ok (l := l) (o := 2) (s := 1) (by omega)
  obtain ⟨g2, r2⟩ := r_ok (l := l) (o := 3) (s := 8) (by omega)
  obtain ⟨g3, r3⟩ := r_ok (l := l) (o := 11) (s := 8) (by omega)
  have c1 : Call1 Try.prog 66 [.ptr (some (2, 0)), nI 1] (mkSt [(0, R0 l), (1, .cells zC true), (2, rr 2 (l.length - 6) (l.length - 2) false), (3, (rof.pO 0 0 0 0 0 nl))] 4) (.int .u64 (.ofNat (x0 l)), mQ (R0 l) 3 (l.length - 4 - 3) (l.length - 3) false (rof.pO 0 0 0 0 0 nl) 6) := by
    have h := atQ (l := l) (p := (rof.pO 0 0 0 0 0 nl)) (nx := 4) h0 (refI 1) (rrd.num1 (o := 2) (bad := false) h4 (by omega) hB) (fun _ _ => rfl) (by decide)
    rw [numR_ok g1, g1, r1] at h
    rw [e6]
    exact h
  have c2 : Call1 Try.prog 66 [.ptr (some (2, 0)), nI 8] (mQ (R0 l) 3 (l.length - 4 - 3) (l.length - 3) false (rof.pO (wrapF .i64 (.ofNat (x0 l))) 0 0 0 0 nl) 6) (.int .u64 (.ofNat (x1 l)), mQ (R0 l) 11 (l.length - 4 - 11) (l.length - 11) false (rof.pO (wrapF .i64 (.ofNat (x0 l))) 0 0 0 0 nl) 8) := by
    have h := atQ (l := l) (p := (rof.pO (wrapF .i64 (.ofNat (x0 l))) 0 0 0 0 nl)) (nx := 6) h0 (refI 8) (rrd.num8 (o := 3) (bad := false) h4 (by omega) hB) (fun _ _ => rfl) (by decide)
    rw [numR_ok g2, g2, r2] at h
    exact h
  have c3 : Call1 Try.prog 66 [.ptr (some (2, 0)), nI 8] (mQ (R0 l) 11 (l.length - 4 - 11) (l.length - 11) false (rof.pO (wrapF .i64 (.ofNat (x0 l))) (.ofNat (x1 l)) 0 0 0 nl) 8) (.int .u64 (.ofNat (x2 l)), mQ (R0 l) 19 (l.length - 4 - 19) (l.length - 19) false (rof.pO (wrapF .i64 (.ofNat (x0 l))) (.ofNat (x1 l)) 0 0 0 nl) 10) := by
    have h := atQ (l := l) (p := (rof.pO (wrapF .i64 (.ofNat (x0 l))) (.ofNat (x1 l)) 0 0 0 nl)) (nx := 8) h0 (refI 8) (rrd.num8 (o := 11) (bad := false) h4 (by omega) hB) (fun _ _ => rfl) (by decide)
    rw [numR_ok g3, g3, r3] at h
    exact h
  have c8 : Call1 Try.prog 68 [.ptr (some (2, 0))] (mQ (R0 l) 19 (l.length - 4 - 19) (l.length - 19) false (rof.pO (wrapF .i64 (.ofNat (x0 l))) (.ofNat (x1 l)) (.ofNat (x2 l)) 0 0 nl) 26) (.bool (!false && eqF (.ofNat (l.length - 4 - 19)) (.ofNat 0)), mQ (R0 l) 19 (l.length - 4 - 19) (l.length - 19) false (rof.pO (wrapF .i64 (.ofNat (x0 l))) (.ofNat (x1 l)) (.ofNat (x2 l)) 0 0 nl) 28) := atQ h0 refN (rrd.doneRun (o := 19) (bad := false) h4) (fun _ _ => rfl) (by decide)
  have c9 : Call1 Try.prog 69 [.agg [.int .i64 (wrapF .i64 (.ofNat (x0 l))), .int .u64 (.ofNat (x1 l)), .int .u64 (.ofNat (x2 l)), .int .u64 (.ofNat 0), .int .u64 (.ofNat 0), nilV]] (mQ (R0 l) 19 (l.length - 4 - 19) (l.length - 19) false (rof.pO (wrapF .i64 (.ofNat (x0 l))) (.ofNat (x1 l)) (.ofNat (x2 l)) 0 0 nl) 28) (.bool (mayO (x0 l) (x1 l) (x2 l)), mQ (R0 l) 19 (l.length - 4 - 19) (l.length - 19) false (rof.pO (wrapF .i64 (.ofNat (x0 l))) (.ofNat (x1 l)) (.ofNat (x2 l)) 0 0 nl) 28) := by
    have h := may_any (S := mQ (R0 l) 19 (l.length - 4 - 19) (l.length - 19) false (rof.pO (wrapF .i64 (.ofNat (x0 l))) (.ofNat (x1 l)) (.ofNat (x2 l)) 0 0 nl) 28) (k := x0 l) (m := x1 l) (t := x2 l) (a := 0) (s := 0) (l := []) .nil
    rw [hw]
    rw [hw] at h
    exact h
  have hg : good l ↔ (!false && eqF (.ofNat (l.length - 4 - 19)) (.ofNat 0)) = true ∧ mayO (x0 l) (x1 l) (x2 l) = true ∧ bdO (x0 l) (x1 l) (x2 l) = l := by
    constructor
    · intro g
      rcases g with ⟨_, _, q1, q2, q3⟩ | ⟨q, _⟩ | ⟨q, _⟩
      · exact ⟨by rw [q1]; rfl, q2, q3⟩
      · exact absurd q k3
      · exact absurd q k2
    · rintro ⟨q1, q2, q3⟩
      refine .inl ⟨k2, k3, ?_, q2, q3⟩
      have := nn (show eqF (.ofNat (l.length - 4 - 19)) (.ofNat 0) = true from by simpa using q1)
      omega
  have cP : Call1 Try.prog 70 [.agg [.int .i64 (wrapF .i64 (.ofNat (x0 l))), .int .u64 (.ofNat (x1 l)), .int .u64 (.ofNat (x2 l)), .int .u64 (.ofNat 0), .int .u64 (.ofNat 0), nilV]] (mQ (R0 l) 19 (l.length - 4 - 19) (l.length - 19) false (rof.pO (wrapF .i64 (.ofNat (x0 l))) (.ofNat (x1 l)) (.ofNat (x2 l)) 0 0 nl) 28) (.slice (some (47, 0)) 23 (.rest 1), mR (R0 l) 19 (l.length - 4 - 19) (l.length - 19) false (rof.pO (wrapF .i64 (.ofNat (x0 l))) (.ofNat (x1 l)) (.ofNat (x2 l)) 0 0 nl) 47 (.cells ((bdO (x0 l) (x1 l) (x2 l)).map cellU) true) 48) := by
    rw [hw]
    exact pof.to1 (rpk.packO (a := 0) (s := 0) xl k2 k3 (beN8 hB) (beN8 hB) (l := []) .nil) rfl (by kernel_rfl)
  have hq := qR_ok (tok c1 (tok c2 (tok c3 (tok c8 (tok c9 (tok cP tok0))))))
  refine run_of_tm EPok hq (Eq.mp (vcO (qR _) l.length (l.getD 0 0) (l.getD 1 0) (R0 l) (.cells ((bdO (x0 l) (x1 l) (x2 l)).map cellU) true) (!false && eqF (.ofNat (l.length - 4 - 19)) (.ofNat 0)) (mayO (x0 l) (x1 l) (x2 l)) (!((bdO (x0 l) (x1 l) (x2 l)) == l)) (bdO (x0 l) (x1 l) (x2 l)) l (x0 l) (x1 l) (x2 l) 3 (l.length - 4 - 3) (l.length - 3) 11 (l.length - 4 - 11) (l.length - 11) 19 (l.length - 4 - 19) (l.length - 19) false false false (EndsR l))
    ⟨lenA _, ifB_mk (fun h => absurd (of_decide_eq_true ((ltF_nn _ _).symm.trans h)) (by omega)) fun _ => ⟨still_of (idx_at (k := 0) sl25 (by omega)), ldA (by kernel_rfl) (by omega), ifB_mk (fun h => failR (by decide) fun g => by rw [(good_marks g).1] at h; cases h) fun _ => ⟨still_of (idx_at (k := 1) sl25 (by omega)), ldA (by kernel_rfl) (by omega), ifB_mk (fun h => failR (by decide) fun g => by rw [(good_marks g).2] at h; cases h) fun _ => ⟨lenA _, slA h23 (by omega), at_tab rfl (tabC_hd ..), at_tab rfl ((tabC_tln rfl).trans (tabC_hd ..)), at_tab rfl ((tabC_tln rfl).trans ((tabC_tln rfl).trans (tabC_hd ..))), eql_int _ q2, eql_int _ q3, eql_int _ q2, at_tab rfl ((tabC_tln rfl).trans ((tabC_tln rfl).trans ((tabC_tln rfl).trans (tabC_hd ..)))), ifB_mk (fun h1 => ⟨at_tab rfl ((tabC_tln rfl).trans ((tabC_tln rfl).trans ((tabC_tln rfl).trans ((tabC_tln rfl).trans (tabC_hd ..))))), ifB_mk (fun h2 => ?_) fun h2 => ⟨⟨⟨rfl, by kernel_rfl⟩, trivial⟩, failR (by decide) fun g => by rw [(hg.1 g).2.1] at h2; cases h2⟩⟩) fun h1 => ⟨⟨⟨rfl, by kernel_rfl⟩, trivial⟩, failR (by decide) fun g => by rw [(hg.1 g).1] at h1; cases h1⟩⟩⟩⟩⟩)
  have hs : ∀ S : ASt, S.h.get 0 = some (R0 l) → aConvert EP 25 9 (.slice (some (0, 0)) l.length (.atl l.length)) S = some (.str l, S) := fun S hS => conv (SlB.row hS takeU) hB
  refine ⟨at_tab rfl ((tabC_tln rfl).trans ((tabC_tln rfl).trans ((tabC_tln rfl).trans ((tabC_tln rfl).trans ((tabC_tlf rfl).trans (tabC_hd ..)))))), conv (SlB.row (cs := (bdO (x0 l) (x1 l) (x2 l)).map cellU) (rw := true) (by kernel_rfl) (taken _ bdO_len)) (nats_lt (U8app (U8hd xl _ _) (U8tl _))), hs _ (by kernel_rfl), neq_str _ _, ifB_mk (fun h3 => ⟨?_, failR (by decide) fun g => ?_⟩) fun h3 => ⟨?_, ?_⟩⟩
  · rw [hs _ (by kernel_rfl)]
    simp [holdsO, fstO, avEq]
  · rw [(hg.1 g).2.2] at h3
    simp at h3
  · rw [hs _ (by kernel_rfl)]
    simp [holdsO, fstO, avEq]
  · have h3' : bdO (x0 l) (x1 l) (x2 l) = l := by simpa using h3
    have g := hg.2 ⟨h1, h2, h3'⟩
    refine goodR (by decide) g ?_
    unfold pkA
    rw [beq_f k2, beq_f k3, hw]
    rfl
theorem runA (h0 : l ≠ []) (hB : ∀ x, x ∈ l → x < 256) (hl : l.length ≤ 9000) (h23 : 23 ≤ l.length) (k3 : x0 l = 3) : RunsR l := by
  have h4 : 4 ≤ l.length := by omega
  have e6 : l.length - 6 = l.length - 4 - 2 := by omega
  have xl : x0 l < 256 := beN_lt (fun i => getD_lt hB) 1 (by decide)
  have hw : wrapF .i64 (.ofNat (x0 l)) = .ofNat (x0 l) := wrap_nat (by omega)
  have q2 : eqF (wrapF .i64 (.ofNat (x0 l))) (.ofNat 2) = false := by rw [hw]; exact nf (by omega)
  have q3 : eqF (wrapF .i64 (.ofNat (x0 l))) (.ofNat 3) = true := by rw [hw, k3]; rfl
  obtain ⟨g1, r1⟩ := r_ok (l := l) (o := 2) (s := 1) (by omega)
  obtain ⟨g2, r2⟩ := r_ok (l := l) (o := 3) (s := 8) (by omega)
  obtain ⟨g3, r3⟩ := r_ok (l := l) (o := 11) (s := 8) (by omega)
  have c1 : Call1 Try.prog 66 [.ptr (some (2, 0)), nI 1] (mkSt [(0, R0 l), (1, .cells zC true), (2, rr 2 (l.length - 6) (l.length - 2) false), (3, (rof.pO 0 0 0 0 0 nl))] 4) (.int .u64 (.ofNat (x0 l)), mQ (R0 l) 3 (l.length - 4 - 3) (l.length - 3) false (rof.pO 0 0 0 0 0 nl) 6) := by
    have h := atQ (l := l) (p := (rof.pO 0 0 0 0 0 nl)) (nx := 4) h0 (refI 1) (rrd.num1 (o := 2) (bad := false) h4 (by omega) hB) (fun _ _ => rfl) (by decide)
    rw [numR_ok g1, g1, r1] at h
    rw [e6]
    exact h
  have c2 : Call1 Try.prog 66 [.ptr (some (2, 0)), nI 8] (mQ (R0 l) 3 (l.length - 4 - 3) (l.length - 3) false (rof.pO (wrapF .i64 (.ofNat (x0 l))) 0 0 0 0 nl) 6) (.int .u64 (.ofNat (x1 l)), mQ (R0 l) 11 (l.length - 4 - 11) (l.length - 11) false (rof.pO (wrapF .i64 (.ofNat (x0 l))) 0 0 0 0 nl) 8) := by
    have h := atQ (l := l) (p := (rof.pO (wrapF .i64 (.ofNat (x0 l))) 0 0 0 0 nl)) (nx := 6) h0 (refI 8) (rrd.num8 (o := 3) (bad := false) h4 (by omega) hB) (fun _ _ => rfl) (by decide)
    rw [numR_ok g2, g2, r2] at h
    exact h
  have c3 : Call1 Try.prog 66 [.ptr (some (2, 0)), nI 8] (mQ (R0 l) 11 (l.length - 4 - 11) (l.length - 11) false (rof.pO (wrapF .i64 (.ofNat (x0 l))) (.ofNat (x1 l)) 0 0 0 nl) 8) (.int .u64 (.ofNat (x2 l)), mQ (R0 l) 19 (l.length - 4 - 19) (l.length - 19) false (rof.pO (wrapF .i64 (.ofNat (x0 l))) (.ofNat (x1 l)) 0 0 0 nl) 10) := by
    have h := atQ (l := l) (p := (rof.pO (wrapF .i64 (.ofNat (x0 l))) (.ofNat (x1 l)) 0 0 0 nl)) (nx := 8) h0 (refI 8) (rrd.num8 (o := 11) (bad := false) h4 (by omega) hB) (fun _ _ => rfl) (by decide)
    rw [numR_ok g3, g3, r3] at h
    exact h
  obtain ⟨y, y4⟩ : ∃ y, y = numR l 19 false 8 := ⟨_, rfl⟩
  obtain ⟨o4, r4⟩ : ∃ y, y = rO l 19 false 8 := ⟨_, rfl⟩
  obtain ⟨d4, g4⟩ : ∃ y, y = rB l 19 false 8 := ⟨_, rfl⟩
  have l4 : o4 ≤ l.length - 4 := r4 ▸ rrd.rO_le (by omega)
  have yl : y < 18446744073709551616 := y4 ▸ numR_lt (k := 8) hB (by decide)
  have c4 : Call1 Try.prog 66 [.ptr (some (2, 0)), nI 8] (mQ (R0 l) 19 (l.length - 4 - 19) (l.length - 19) false (rof.pO (wrapF .i64 (.ofNat (x0 l))) (.ofNat (x1 l)) (.ofNat (x2 l)) 0 0 nl) 10) (.int .u64 (.ofNat y), mQ (R0 l) o4 (l.length - 4 - o4) (l.length - o4) d4 (rof.pO (wrapF .i64 (.ofNat (x0 l))) (.ofNat (x1 l)) (.ofNat (x2 l)) 0 0 nl) 12) := by
    have h := atQ (l := l) (p := (rof.pO (wrapF .i64 (.ofNat (x0 l))) (.ofNat (x1 l)) (.ofNat (x2 l)) 0 0 nl)) (nx := 10) h0 (refI 8) (rrd.num8 (o := 19) (bad := false) h4 (by omega) hB) (fun _ _ => rfl) (by decide)
    rw [← y4, ← r4, ← g4] at h
    exact h
  have c8 : Call1 Try.prog 68 [.ptr (some (2, 0))] (mQ (R0 l) o4 (l.length - 4 - o4) (l.length - o4) d4 (rof.pO (wrapF .i64 (.ofNat (x0 l))) (.ofNat (x1 l)) (.ofNat (x2 l)) (.ofNat (y)) 0 nl) 28) (.bool (!d4 && eqF (.ofNat (l.length - 4 - o4)) (.ofNat 0)), mQ (R0 l) o4 (l.length - 4 - o4) (l.length - o4) d4 (rof.pO (wrapF .i64 (.ofNat (x0 l))) (.ofNat (x1 l)) (.ofNat (x2 l)) (.ofNat (y)) 0 nl) 30) := atQ h0 refN (rrd.doneRun (o := o4) (bad := d4) h4) (fun _ _ => rfl) (by decide)
  have c9 : Call1 Try.prog 69 [.agg [.int .i64 (wrapF .i64 (.ofNat (x0 l))), .int .u64 (.ofNat (x1 l)), .int .u64 (.ofNat (x2 l)), .int .u64 (.ofNat y), .int .u64 (.ofNat 0), nilV]] (mQ (R0 l) o4 (l.length - 4 - o4) (l.length - o4) d4 (rof.pO (wrapF .i64 (.ofNat (x0 l))) (.ofNat (x1 l)) (.ofNat (x2 l)) (.ofNat (y)) 0 nl) 30) (.bool (mayA (x1 l) (x2 l) y), mQ (R0 l) o4 (l.length - 4 - o4) (l.length - o4) d4 (rof.pO (wrapF .i64 (.ofNat (x0 l))) (.ofNat (x1 l)) (.ofNat (x2 l)) (.ofNat (y)) 0 nl) 30) := by
    have h := may_any (S := mQ (R0 l) o4 (l.length - 4 - o4) (l.length - o4) d4 (rof.pO (wrapF .i64 (.ofNat (x0 l))) (.ofNat (x1 l)) (.ofNat (x2 l)) (.ofNat (y)) 0 nl) 30) (k := x0 l) (m := x1 l) (t := x2 l) (a := y) (s := 0) (l := []) .nil
    rw [hw, show mayA (x1 l) (x2 l) y = pkb.mayB (.ofNat (x0 l)) (.ofNat (x1 l)) (.ofNat (x2 l)) (.ofNat y) (.ofNat 0) 0 by rw [k3]; rfl]
    rw [hw] at h
    exact h
  have hg : good l ↔ (!d4 && eqF (.ofNat (l.length - 4 - o4)) (.ofNat 0)) = true ∧ mayA (x1 l) (x2 l) y = true ∧ bdA (x1 l) (x2 l) y = l := by
    constructor
    · intro g
      rcases g with ⟨_, q, _⟩ | ⟨_, q1, q2, q3⟩ | ⟨q, _⟩
      · exact absurd k3 q
      · obtain ⟨a4, b4⟩ := r_ok (l := l) (o := 19) (s := 8) (by omega)
        rw [numR_ok a4] at y4; rw [a4] at g4; rw [b4] at r4
        have yy : y = x3 l := y4
        exact ⟨by rw [g4, r4, q1]; rfl, by rw [yy]; exact q2, by rw [yy]; exact q3⟩
      · exact absurd (k3.symm.trans q) (by decide)
    · rintro ⟨q1, q2, q3⟩
      have hd : d4 = false := by cases d4 with | false => rfl | true => cases q1
      obtain ⟨_, a4, b4⟩ := r_inv (g4.symm.trans hd)
      have hn := numR_ok (k := 8) (g4.symm.trans hd)
      have yy : y = x3 l := y4.trans hn
      rw [yy] at q2 q3
      refine .inr (.inl ⟨k3, ?_, q2, q3⟩)
      have := nn (show eqF (.ofNat (l.length - 4 - o4)) (.ofNat 0) = true from by rw [hd] at q1; simpa using q1)
      omega
  have cP : Call1 Try.prog 70 [.agg [.int .i64 (wrapF .i64 (.ofNat (x0 l))), .int .u64 (.ofNat (x1 l)), .int .u64 (.ofNat (x2 l)), .int .u64 (.ofNat y), .int .u64 (.ofNat 0), nilV]] (mQ (R0 l) o4 (l.length - 4 - o4) (l.length - o4) d4 (rof.pO (wrapF .i64 (.ofNat (x0 l))) (.ofNat (x1 l)) (.ofNat (x2 l)) (.ofNat (y)) 0 nl) 30) (.slice (some (51, 0)) 31 (.rest 1), mR (R0 l) o4 (l.length - 4 - o4) (l.length - o4) d4 (rof.pO (wrapF .i64 (.ofNat (x0 l))) (.ofNat (x1 l)) (.ofNat (x2 l)) (.ofNat (y)) 0 nl) 51 (.cells ((bdA (x1 l) (x2 l) y).map cellU) true) 52) := by
    rw [hw, k3]
    exact pof.to1 (rpk.packA (s := 0) (beN8 hB) (beN8 hB) yl (l := []) .nil) rfl (by kernel_rfl)
  have hq := qR_ok (tok c1 (tok c2 (tok c3 (tok c4 (tok c8 (tok c9 (tok cP tok0)))))))
  refine run_of_tm EPok hq (Eq.mp (vcA (qR _) l.length (l.getD 0 0) (l.getD 1 0) (R0 l) (.cells ((bdA (x1 l) (x2 l) y).map cellU) true) (!d4 && eqF (.ofNat (l.length - 4 - o4)) (.ofNat 0)) (mayA (x1 l) (x2 l) y) (!((bdA (x1 l) (x2 l) y) == l)) (bdA (x1 l) (x2 l) y) l (x0 l) (x1 l) (x2 l) y 3 (l.length - 4 - 3) (l.length - 3) 11 (l.length - 4 - 11) (l.length - 11) 19 (l.length - 4 - 19) (l.length - 19) o4 (l.length - 4 - o4) (l.length - o4) false false false d4 (EndsR l))
    ⟨lenA _, ifB_mk (fun h => absurd (of_decide_eq_true ((ltF_nn _ _).symm.trans h)) (by omega)) fun _ => ⟨still_of (idx_at (k := 0) sl25 (by omega)), ldA (by kernel_rfl) (by omega), ifB_mk (fun h => failR (by decide) fun g => by rw [(good_marks g).1] at h; cases h) fun _ => ⟨still_of (idx_at (k := 1) sl25 (by omega)), ldA (by kernel_rfl) (by omega), ifB_mk (fun h => failR (by decide) fun g => by rw [(good_marks g).2] at h; cases h) fun _ => ⟨lenA _, slA h23 (by omega), at_tab rfl (tabC_hd ..), at_tab rfl ((tabC_tln rfl).trans (tabC_hd ..)), at_tab rfl ((tabC_tln rfl).trans ((tabC_tln rfl).trans (tabC_hd ..))), eql_int _ q2, eql_int _ q3, at_tab rfl ((tabC_tln rfl).trans ((tabC_tln rfl).trans ((tabC_tln rfl).trans (tabC_hd ..)))), eql_int _ q2, at_tab rfl ((tabC_tln rfl).trans ((tabC_tln rfl).trans ((tabC_tln rfl).trans ((tabC_tln rfl).trans (tabC_hd ..))))), ifB_mk (fun h1 => ⟨at_tab rfl ((tabC_tln rfl).trans ((tabC_tln rfl).trans ((tabC_tln rfl).trans ((tabC_tln rfl).trans ((tabC_tln rfl).trans (tabC_hd ..)))))), ifB_mk (fun h2 => ?_) fun h2 => ⟨⟨⟨rfl, by kernel_rfl⟩, trivial⟩, failR (by decide) fun g => by rw [(hg.1 g).2.1] at h2; cases h2⟩⟩) fun h1 => ⟨⟨⟨rfl, by kernel_rfl⟩, trivial⟩, failR (by decide) fun g => by rw [(hg.1 g).1] at h1; cases h1⟩⟩⟩⟩⟩)
  have hs : ∀ S : ASt, S.h.get 0 = some (R0 l) → aConvert EP 25 9 (.slice (some (0, 0)) l.length (.atl l.length)) S = some (.str l, S) := fun S hS => conv (SlB.row hS takeU) hB
  refine ⟨at_tab rfl ((tabC_tln rfl).trans ((tabC_tln rfl).trans ((tabC_tln rfl).trans ((tabC_tln rfl).trans ((tabC_tln rfl).trans ((tabC_tlf rfl).trans (tabC_hd ..))))))), conv (SlB.row (cs := (bdA (x1 l) (x2 l) y).map cellU) (rw := true) (by kernel_rfl) (taken _ bdA_len)) (nats_lt (U8app (U8app (U8hd (by decide) _ _) (U8be _)) (U8tl _))), hs _ (by kernel_rfl), neq_str _ _, ifB_mk (fun h3 => ⟨?_, failR (by decide) fun g => ?_⟩) fun h3 => ⟨?_, ?_⟩⟩
  · rw [hs _ (by kernel_rfl)]
    simp [holdsO, fstO, avEq]
  · rw [(hg.1 g).2.2] at h3
    simp at h3
  · rw [hs _ (by kernel_rfl)]
    simp [holdsO, fstO, avEq]
  · have h3' : bdA (x1 l) (x2 l) y = l := by simpa using h3
    have g := hg.2 ⟨h1, h2, h3'⟩
    refine goodR (by decide) g ?_
    have yy : y = x3 l := by
      obtain ⟨a4, _⟩ := r_ok (l := l) (o := 19) (s := 8) (by
        rcases g with ⟨_, q, _⟩ | ⟨_, q1, _⟩ | ⟨q, _⟩
        · exact absurd k3 q
        · omega
        · exact absurd (k3.symm.trans q) (by decide))
      rw [numR_ok a4] at y4
      exact y4
    unfold pkA
    rw [hw, k3, yy]
    rfl
theorem runD (h0 : l ≠ []) (hB : ∀ x, x ∈ l → x < 256) (hl : l.length ≤ 9000) (h23 : 23 ≤ l.length) (k2 : x0 l = 2) : RunsR l := by
  have h4 : 4 ≤ l.length := by omega
  have e6 : l.length - 6 = l.length - 4 - 2 := by omega
  have xl : x0 l < 256 := beN_lt (fun i => getD_lt hB) 1 (by decide)
  have hw : wrapF .i64 (.ofNat (x0 l)) = .ofNat (x0 l) := wrap_nat (by omega)
  have q2 : eqF (wrapF .i64 (.ofNat (x0 l))) (.ofNat 2) = true := by rw [hw, k2]; rfl
  obtain ⟨g1, r1⟩ := r_ok (l := l) (o := 2) (s := 1) (by omega)
  obtain ⟨g2, r2⟩ := r_ok (l := l) (o := 3) (s := 8) (by omega)
  obtain ⟨g3, r3⟩ := r_ok (l := l) (o := 11) (s := 8) (by omega)
  have c1 : Call1 Try.prog 66 [.ptr (some (2, 0)), nI 1] (mkSt [(0, R0 l), (1, .cells zC true), (2, rr 2 (l.length - 6) (l.length - 2) false), (3, (rof.pO 0 0 0 0 0 nl))] 4) (.int .u64 (.ofNat (x0 l)), mQ (R0 l) 3 (l.length - 4 - 3) (l.length - 3) false (rof.pO 0 0 0 0 0 nl) 6) := by
    have h := atQ (l := l) (p := (rof.pO 0 0 0 0 0 nl)) (nx := 4) h0 (refI 1) (rrd.num1 (o := 2) (bad := false) h4 (by omega) hB) (fun _ _ => rfl) (by decide)
    rw [numR_ok g1, g1, r1] at h
    rw [e6]
    exact h
  have c2 : Call1 Try.prog 66 [.ptr (some (2, 0)), nI 8] (mQ (R0 l) 3 (l.length - 4 - 3) (l.length - 3) false (rof.pO (wrapF .i64 (.ofNat (x0 l))) 0 0 0 0 nl) 6) (.int .u64 (.ofNat (x1 l)), mQ (R0 l) 11 (l.length - 4 - 11) (l.length - 11) false (rof.pO (wrapF .i64 (.ofNat (x0 l))) 0 0 0 0 nl) 8) := by
    have h := atQ (l := l) (p := (rof.pO (wrapF .i64 (.ofNat (x0 l))) 0 0 0 0 nl)) (nx := 6) h0 (refI 8) (rrd.num8 (o := 3) (bad := false) h4 (by omega) hB) (fun _ _ => rfl) (by decide)
    rw [numR_ok g2, g2, r2] at h
    exact h
  have c3 : Call1 Try.prog 66 [.ptr (some (2, 0)), nI 8] (mQ (R0 l) 11 (l.length - 4 - 11) (l.length - 11) false (rof.pO (wrapF .i64 (.ofNat (x0 l))) (.ofNat (x1 l)) 0 0 0 nl) 8) (.int .u64 (.ofNat (x2 l)), mQ (R0 l) 19 (l.length - 4 - 19) (l.length - 19) false (rof.pO (wrapF .i64 (.ofNat (x0 l))) (.ofNat (x1 l)) 0 0 0 nl) 10) := by
    have h := atQ (l := l) (p := (rof.pO (wrapF .i64 (.ofNat (x0 l))) (.ofNat (x1 l)) 0 0 0 nl)) (nx := 8) h0 (refI 8) (rrd.num8 (o := 11) (bad := false) h4 (by omega) hB) (fun _ _ => rfl) (by decide)
    rw [numR_ok g3, g3, r3] at h
    exact h
  obtain ⟨y, y4⟩ : ∃ y, y = numR l 19 false 8 := ⟨_, rfl⟩
  obtain ⟨o4, r4⟩ : ∃ y, y = rO l 19 false 8 := ⟨_, rfl⟩
  obtain ⟨d4, g4⟩ : ∃ y, y = rB l 19 false 8 := ⟨_, rfl⟩
  have l4 : o4 ≤ l.length - 4 := r4 ▸ rrd.rO_le (by omega)
  have yl : y < 18446744073709551616 := y4 ▸ numR_lt (k := 8) hB (by decide)
  have c4 : Call1 Try.prog 66 [.ptr (some (2, 0)), nI 8] (mQ (R0 l) 19 (l.length - 4 - 19) (l.length - 19) false (rof.pO (wrapF .i64 (.ofNat (x0 l))) (.ofNat (x1 l)) (.ofNat (x2 l)) 0 0 nl) 10) (.int .u64 (.ofNat y), mQ (R0 l) o4 (l.length - 4 - o4) (l.length - o4) d4 (rof.pO (wrapF .i64 (.ofNat (x0 l))) (.ofNat (x1 l)) (.ofNat (x2 l)) 0 0 nl) 12) := by
    have h := atQ (l := l) (p := (rof.pO (wrapF .i64 (.ofNat (x0 l))) (.ofNat (x1 l)) (.ofNat (x2 l)) 0 0 nl)) (nx := 10) h0 (refI 8) (rrd.num8 (o := 19) (bad := false) h4 (by omega) hB) (fun _ _ => rfl) (by decide)
    rw [← y4, ← r4, ← g4] at h
    exact h
  obtain ⟨z, y5⟩ : ∃ z, z = numR l o4 d4 8 := ⟨_, rfl⟩
  obtain ⟨o5, r5⟩ : ∃ y, y = rO l o4 d4 8 := ⟨_, rfl⟩
  obtain ⟨d5, g5⟩ : ∃ y, y = rB l o4 d4 8 := ⟨_, rfl⟩
  have l5 : o5 ≤ l.length - 4 := r5 ▸ rrd.rO_le l4
  have zl : z < 18446744073709551616 := y5 ▸ numR_lt (k := 8) hB (by decide)
  have c5 : Call1 Try.prog 66 [.ptr (some (2, 0)), nI 8] (mQ (R0 l) o4 (l.length - 4 - o4) (l.length - o4) d4 (rof.pO (wrapF .i64 (.ofNat (x0 l))) (.ofNat (x1 l)) (.ofNat (x2 l)) (.ofNat (y)) 0 nl) 12) (.int .u64 (.ofNat z), mQ (R0 l) o5 (l.length - 4 - o5) (l.length - o5) d5 (rof.pO (wrapF .i64 (.ofNat (x0 l))) (.ofNat (x1 l)) (.ofNat (x2 l)) (.ofNat (y)) 0 nl) 14) := by
    have h := atQ (l := l) (p := (rof.pO (wrapF .i64 (.ofNat (x0 l))) (.ofNat (x1 l)) (.ofNat (x2 l)) (.ofNat (y)) 0 nl)) (nx := 12) h0 (refI 8) (rrd.num8 (o := o4) (bad := d4) h4 (by omega) hB) (fun _ _ => rfl) (by decide)
    rw [← y5, ← r5, ← g5] at h
    exact h
  obtain ⟨o6, r6⟩ : ∃ y, y = rO l o5 d5 2 := ⟨_, rfl⟩
  obtain ⟨d6, g6⟩ : ∃ y, y = rB l o5 d5 2 := ⟨_, rfl⟩
  obtain ⟨nw, y6⟩ : ∃ y, y = numR l o5 d5 2 := ⟨_, rfl⟩
  obtain ⟨o7, r7⟩ : ∃ y, y = rO l o6 d6 nw := ⟨_, rfl⟩
  obtain ⟨d7, g7⟩ : ∃ y, y = rB l o6 d6 nw := ⟨_, rfl⟩
  have l6 : o6 ≤ l.length - 4 := r6 ▸ rrd.rO_le l5
  have l7 : o7 ≤ l.length - 4 := r7 ▸ rrd.rO_le l6
  have nl6 : nw < 65536 := y6 ▸ numR_lt (k := 2) hB (by decide)
  have c6 : Call1 Try.prog 67 [.ptr (some (2, 0))] (mQ (R0 l) o5 (l.length - 4 - o5) (l.length - o5) d5 (rof.pO (wrapF .i64 (.ofNat (x0 l))) (.ofNat (x1 l)) (.ofNat (x2 l)) (.ofNat (y)) (.ofNat (z)) nl) 14) (rrd.cutR l o6 d6 nw, mQ (R0 l) o7 (l.length - 4 - o7) (l.length - o7) d7 (rof.pO (wrapF .i64 (.ofNat (x0 l))) (.ofNat (x1 l)) (.ofNat (x2 l)) (.ofNat (y)) (.ofNat (z)) nl) 16) := by
    have h := atQ (l := l) (p := (rof.pO (wrapF .i64 (.ofNat (x0 l))) (.ofNat (x1 l)) (.ofNat (x2 l)) (.ofNat (y)) (.ofNat (z)) nl)) (nx := 14) (v' := rrd.cutR l o6 d6 nw) h0 refN (rrd.blobRun (o := o5) (bad := d5) h4 l5 hB) (fun g hg => by
      rw [← r6, ← g6, ← y6]
      unfold rrd.cutR
      cases rB l o6 d6 nw
      · show mapV g (slR o6 nw (l.length - o6)) = slR o6 nw (l.length - o6)
        unfold slR mapV
        rw [hg]
      · rfl) (by decide)
    rw [← r6, ← g6, ← y6, ← r7, ← g7] at h
    exact h
  have hgb : good l → d7 = false ∧ o7 = l.length - 4 ∧ y = x3 l ∧ z = x4 l ∧ nw = nP l ∧ o6 = 37 ∧ l.length = 41 + nP l := fun g => by
    rcases g with ⟨q, _⟩ | ⟨q, _⟩ | ⟨_, q, _⟩
    · exact absurd k2 q
    · exact absurd (k2.symm.trans q) (by decide)
    · obtain ⟨a4, b4⟩ := r_ok (l := l) (o := 19) (s := 8) (by omega)
      rw [numR_ok a4] at y4; rw [a4] at g4; rw [b4] at r4; subst g4; subst r4
      obtain ⟨a5, b5⟩ := r_ok (l := l) (o := 19 + 8) (s := 8) (by omega)
      rw [numR_ok a5] at y5; rw [a5] at g5; rw [b5] at r5; subst g5; subst r5
      obtain ⟨a6, b6⟩ := r_ok (l := l) (o := 19 + 8 + 8) (s := 2) (by omega)
      rw [numR_ok a6] at y6; rw [a6] at g6; rw [b6] at r6; subst g6; subst r6
      have yn : nw = nP l := y6
      obtain ⟨a7, b7⟩ := r_ok (l := l) (o := 19 + 8 + 8 + 2) (s := nw) (by omega)
      rw [a7] at g7; rw [b7] at r7
      exact ⟨g7, by omega, y4, y5, yn, rfl, q⟩
  cases hd7 : d7 with
  | true =>
    have hW : rrd.cutR l o6 d6 nw = nilV := by unfold rrd.cutR; rw [← g7, hd7]; rfl
    rw [hW] at c6
    have ng : ¬ good l := fun g => by have := (hgb g).1; rw [hd7] at this; cases this
    rw [hd7] at c6
    have c7 : Call1 Try.prog 68 [.ptr (some (2, 0))] (mQ (R0 l) o7 (l.length - 4 - o7) (l.length - o7) true (rof.pO (wrapF .i64 (.ofNat (x0 l))) (.ofNat (x1 l)) (.ofNat (x2 l)) (.ofNat (y)) (.ofNat (z)) nl) 32) (.bool false, mQ (R0 l) o7 (l.length - 4 - o7) (l.length - o7) true (rof.pO (wrapF .i64 (.ofNat (x0 l))) (.ofNat (x1 l)) (.ofNat (x2 l)) (.ofNat (y)) (.ofNat (z)) nl) 34) := atQ h0 refN (rrd.doneRun (o := o7) (bad := true) h4) (fun _ _ => rfl) (by decide)
    have hq := qR_ok (tok c1 (tok c2 (tok c3 (tok c4 (tok c5 (tok c6 (tok c7 tok0)))))))
    refine run_of_tm EPok hq (Eq.mp (vcN (qR _) l.length (l.getD 0 0) (l.getD 1 0) (R0 l) .dead false false false [] [] (x0 l) (x1 l) (x2 l) y z 3 (l.length - 4 - 3) (l.length - 3) 11 (l.length - 4 - 11) (l.length - 11) 19 (l.length - 4 - 19) (l.length - 19) o4 (l.length - 4 - o4) (l.length - o4) o5 (l.length - 4 - o5) (l.length - o5) o7 (l.length - 4 - o7) (l.length - o7) false false false d4 d5 true (EndsR l))
      ⟨lenA _, ifB_mk (fun _ => failR (by decide) ng) fun _ => ⟨still_of (idx_at (k := 0) sl25 (by omega)), ldA (by kernel_rfl) (by omega), ifB_mk (fun _ => failR (by decide) ng) fun _ => ⟨still_of (idx_at (k := 1) sl25 (by omega)), ldA (by kernel_rfl) (by omega), ifB_mk (fun _ => failR (by decide) ng) fun _ => ⟨lenA _, slA h23 (by omega), at_tab rfl (tabC_hd ..), at_tab rfl ((tabC_tln rfl).trans (tabC_hd ..)), at_tab rfl ((tabC_tln rfl).trans ((tabC_tln rfl).trans (tabC_hd ..))), eql_int _ q2, at_tab rfl ((tabC_tln rfl).trans ((tabC_tln rfl).trans ((tabC_tln rfl).trans (tabC_hd ..)))), eql_int _ q2, at_tab rfl ((tabC_tln rfl).trans ((tabC_tln rfl).trans ((tabC_tln rfl).trans ((tabC_tln rfl).trans (tabC_hd ..))))), at_tab rfl ((tabC_tln rfl).trans ((tabC_tln rfl).trans ((tabC_tln rfl).trans ((tabC_tln rfl).trans ((tabC_tln rfl).trans (tabC_hd ..)))))), at_tab rfl ((tabC_tln rfl).trans ((tabC_tln rfl).trans ((tabC_tln rfl).trans ((tabC_tln rfl).trans ((tabC_tln rfl).trans ((tabC_tln rfl).trans (tabC_hd ..))))))), ⟨⟨rfl, by kernel_rfl⟩, trivial⟩, failR (by decide) ng⟩⟩⟩⟩)
  | false =>
    have hW : rrd.cutR l o6 d6 nw = slR o6 nw (l.length - o6) := by unfold rrd.cutR; rw [← g7, hd7]; rfl
    rw [hW] at c6
    obtain ⟨a7, b7, f7⟩ := r_inv (g7.symm.trans hd7)
    have i7 : o6 + nw ≤ l.length := by omega
    rw [hd7] at c6 hgb
    have sW : ∀ S : ASt, S.h.get 0 = some (R0 l) → SlB S (slR o6 nw (l.length - o6)) ((l.drop o6).take nw) := fun S hS => SlB.row hS (by
      have e2 : ((l.map cellU).drop o6).take nw = ((l.drop o6).take nw).map cellU := by rw [← List.map_drop, ← List.map_take]
      unfold takeL
      rw [e2]
      have e3 : (((l.drop o6).take nw).map cellU).length = nw := by rw [List.length_map, List.length_take, List.length_drop]; omega
      simp only [e3, Nat.beq_refl, cond_true])
    have lW : ((l.drop o6).take nw).length = nw := by rw [List.length_take, List.length_drop]; omega
    have bW : ∀ x, x ∈ (l.drop o6).take nw → x < 256 := fun x hx => hB x (List.mem_of_mem_drop (List.mem_of_mem_take hx))
    have c8 : Call1 Try.prog 68 [.ptr (some (2, 0))] (mQ (R0 l) o7 (l.length - 4 - o7) (l.length - o7) false (rof.pO (wrapF .i64 (.ofNat (x0 l))) (.ofNat (x1 l)) (.ofNat (x2 l)) (.ofNat y) (.ofNat z) (slR o6 nw (l.length - o6))) 32) (.bool (!false && eqF (.ofNat (l.length - 4 - o7)) (.ofNat 0)), mQ (R0 l) o7 (l.length - 4 - o7) (l.length - o7) false (rof.pO (wrapF .i64 (.ofNat (x0 l))) (.ofNat (x1 l)) (.ofNat (x2 l)) (.ofNat y) (.ofNat z) (slR o6 nw (l.length - o6))) 34) := atQ h0 refN (rrd.doneRun (o := o7) (bad := false) h4) (fun _ _ => rfl) (by decide)
    have c9 : Call1 Try.prog 69 [.agg [.int .i64 (wrapF .i64 (.ofNat (x0 l))), .int .u64 (.ofNat (x1 l)), .int .u64 (.ofNat (x2 l)), .int .u64 (.ofNat y), .int .u64 (.ofNat z), slR o6 nw (l.length - o6)]] (mQ (R0 l) o7 (l.length - 4 - o7) (l.length - o7) false (rof.pO (wrapF .i64 (.ofNat (x0 l))) (.ofNat (x1 l)) (.ofNat (x2 l)) (.ofNat y) (.ofNat z) (slR o6 nw (l.length - o6))) 34) (.bool (mayD (x1 l) (x2 l) y z nw), mQ (R0 l) o7 (l.length - 4 - o7) (l.length - o7) false (rof.pO (wrapF .i64 (.ofNat (x0 l))) (.ofNat (x1 l)) (.ofNat (x2 l)) (.ofNat y) (.ofNat z) (slR o6 nw (l.length - o6))) 34) := by
      have h := may_any (S := mQ (R0 l) o7 (l.length - 4 - o7) (l.length - o7) false (rof.pO (wrapF .i64 (.ofNat (x0 l))) (.ofNat (x1 l)) (.ofNat (x2 l)) (.ofNat y) (.ofNat z) (slR o6 nw (l.length - o6))) 34) (k := x0 l) (m := x1 l) (t := x2 l) (a := y) (s := z) (sW _ (by kernel_rfl))
      rw [lW] at h
      rw [hw, show mayD (x1 l) (x2 l) y z nw = pkb.mayB (.ofNat (x0 l)) (.ofNat (x1 l)) (.ofNat (x2 l)) (.ofNat y) (.ofNat z) nw by rw [k2]; rfl]
      rw [hw] at h
      exact h
    have hg : good l ↔ (!false && eqF (.ofNat (l.length - 4 - o7)) (.ofNat 0)) = true ∧ mayD (x1 l) (x2 l) y z nw = true ∧ bdD (x1 l) (x2 l) y z ((l.drop o6).take nw) = l := by
      constructor
      · intro g
        obtain ⟨_, h2, h3, h4', h5, h6, h7⟩ := hgb g
        rcases g with ⟨q, _⟩ | ⟨q, _⟩ | ⟨_, q1, q2, q3⟩
        · exact absurd k2 q
        · exact absurd (k2.symm.trans q) (by decide)
        · rw [h2, h3, h4', h5, h6]
          exact ⟨by rw [Nat.sub_self]; rfl, q2, q3⟩
      · rintro ⟨q1, q2, q3⟩
        have h6 := a7
        have e6' := numR_ok (k := 2) (g6.symm.trans h6)
        obtain ⟨h5, a6, b6⟩ := r_inv (g6.symm.trans h6)
        have e5' := numR_ok (k := 8) (g5.symm.trans h5)
        obtain ⟨h4', a5, b5⟩ := r_inv (g5.symm.trans h5)
        have e4' := numR_ok (k := 8) (g4.symm.trans h4')
        obtain ⟨_, a4, b4⟩ := r_inv (g4.symm.trans h4')
        have v4 : o4 = 27 := r4.trans b4
        have v5 : o5 = 35 := by rw [r5, b5, v4]
        have v6 : o6 = 37 := by rw [r6, b6, v5]
        have hy : y = x3 l := y4.trans e4'
        have hz : z = x4 l := by rw [y5, e5', v4]; rfl
        have hn : nw = nP l := by rw [y6, e6', v5]; rfl
        rw [hy, hz, hn] at q2
        rw [hy, hz, hn, v6] at q3
        refine .inr (.inr ⟨k2, ?_, q2, q3⟩)
        have := nn (show eqF (.ofNat (l.length - 4 - o7)) (.ofNat 0) = true from by simpa using q1)
        omega
    cases hmay : mayD (x1 l) (x2 l) y z nw with
    | false =>
      rw [hmay] at c9
      have hq := qR_ok (tok c1 (tok c2 (tok c3 (tok c4 (tok c5 (tok c6 (tok c8 (tok c9 tok0))))))))
      refine run_of_tm EPok hq (Eq.mp (vcD (qR _) l.length (l.getD 0 0) (l.getD 1 0) (R0 l) .dead (!false && eqF (.ofNat (l.length - 4 - o7)) (.ofNat 0)) false (!((bdD (x1 l) (x2 l) y z ((l.drop o6).take nw)) == l)) (bdD (x1 l) (x2 l) y z ((l.drop o6).take nw)) l (x0 l) (x1 l) (x2 l) y z o6 nw (l.length - o6) 3 (l.length - 4 - 3) (l.length - 3) 11 (l.length - 4 - 11) (l.length - 11) 19 (l.length - 4 - 19) (l.length - 19) o4 (l.length - 4 - o4) (l.length - o4) o5 (l.length - 4 - o5) (l.length - o5) o7 (l.length - 4 - o7) (l.length - o7) false false false d4 d5 false (EndsR l))
        ⟨lenA _, ifB_mk (fun h => absurd (of_decide_eq_true ((ltF_nn _ _).symm.trans h)) (by omega)) fun _ => ⟨still_of (idx_at (k := 0) sl25 (by omega)), ldA (by kernel_rfl) (by omega), ifB_mk (fun h => failR (by decide) fun g => by rw [(good_marks g).1] at h; cases h) fun _ => ⟨still_of (idx_at (k := 1) sl25 (by omega)), ldA (by kernel_rfl) (by omega), ifB_mk (fun h => failR (by decide) fun g => by rw [(good_marks g).2] at h; cases h) fun _ => ⟨lenA _, slA h23 (by omega), at_tab rfl (tabC_hd ..), at_tab rfl ((tabC_tln rfl).trans (tabC_hd ..)), at_tab rfl ((tabC_tln rfl).trans ((tabC_tln rfl).trans (tabC_hd ..))), eql_int _ q2, at_tab rfl ((tabC_tln rfl).trans ((tabC_tln rfl).trans ((tabC_tln rfl).trans (tabC_hd ..)))), eql_int _ q2, at_tab rfl ((tabC_tln rfl).trans ((tabC_tln rfl).trans ((tabC_tln rfl).trans ((tabC_tln rfl).trans (tabC_hd ..))))), at_tab rfl ((tabC_tln rfl).trans ((tabC_tln rfl).trans ((tabC_tln rfl).trans ((tabC_tln rfl).trans ((tabC_tln rfl).trans (tabC_hd ..)))))), at_tab rfl ((tabC_tln rfl).trans ((tabC_tln rfl).trans ((tabC_tln rfl).trans ((tabC_tln rfl).trans ((tabC_tln rfl).trans ((tabC_tln rfl).trans (tabC_hd ..))))))), ifB_mk (fun h1 => ⟨at_tab rfl ((tabC_tln rfl).trans ((tabC_tln rfl).trans ((tabC_tln rfl).trans ((tabC_tln rfl).trans ((tabC_tln rfl).trans ((tabC_tln rfl).trans ((tabC_tln rfl).trans (tabC_hd ..)))))))), ifB_mk (fun h2 => ?_) fun h2 => ⟨⟨⟨rfl, by kernel_rfl⟩, trivial⟩, failR (by decide) fun g => by have := (hg.1 g).2.1; rw [hmay] at this; cases this⟩⟩) fun h1 => ⟨⟨⟨rfl, by kernel_rfl⟩, trivial⟩, failR (by decide) fun g => by rw [(hg.1 g).1] at h1; cases h1⟩⟩⟩⟩⟩)
      cases h2
    | true =>
      have cP : Call1 Try.prog 70 [.agg [.int .i64 (wrapF .i64 (.ofNat (x0 l))), .int .u64 (.ofNat (x1 l)), .int .u64 (.ofNat (x2 l)), .int .u64 (.ofNat y), .int .u64 (.ofNat z), slR o6 nw (l.length - o6)]] (mQ (R0 l) o7 (l.length - 4 - o7) (l.length - o7) false (rof.pO (wrapF .i64 (.ofNat (x0 l))) (.ofNat (x1 l)) (.ofNat (x2 l)) (.ofNat y) (.ofNat z) (slR o6 nw (l.length - o6))) 34) (.slice (some (71, 0)) (35 + (2 + nw) + 4) (.rest 1), mR (R0 l) o7 (l.length - 4 - o7) (l.length - o7) false (rof.pO (wrapF .i64 (.ofNat (x0 l))) (.ofNat (x1 l)) (.ofNat (x2 l)) (.ofNat y) (.ofNat z) (slR o6 nw (l.length - o6))) 71 (.cells ((bdD (x1 l) (x2 l) y z ((l.drop o6).take nw)).map cellU) true) 72) := by
        obtain ⟨n0, n4⟩ := pky.may2_len (l := (l.drop o6).take nw) (by rw [lW]; exact hmay)
        have h := rpk.packD (S := mQ (R0 l) o7 (l.length - 4 - o7) (l.length - o7) false (rof.pO (wrapF .i64 (.ofNat (x0 l))) (.ofNat (x1 l)) (.ofNat (x2 l)) (.ofNat y) (.ofNat z) (slR o6 nw (l.length - o6))) 34) (m := x1 l) (t := x2 l) bW n0 (by omega) (beN8 (o := 3) hB) (beN8 (o := 11) hB) yl zl (sW _ (by kernel_rfl))
        rw [lW] at h
        rw [hw, k2] at h ⊢
        exact pof.to1 h rfl (by kernel_rfl)
      have hq := qR_ok (tok c1 (tok c2 (tok c3 (tok c4 (tok c5 (tok c6 (tok c8 (tok c9 (tok cP tok0)))))))))
      refine run_of_tm EPok hq (Eq.mp (vcD (qR _) l.length (l.getD 0 0) (l.getD 1 0) (R0 l) (.cells ((bdD (x1 l) (x2 l) y z ((l.drop o6).take nw)).map cellU) true) (!false && eqF (.ofNat (l.length - 4 - o7)) (.ofNat 0)) (mayD (x1 l) (x2 l) y z nw) (!((bdD (x1 l) (x2 l) y z ((l.drop o6).take nw)) == l)) (bdD (x1 l) (x2 l) y z ((l.drop o6).take nw)) l (x0 l) (x1 l) (x2 l) y z o6 nw (l.length - o6) 3 (l.length - 4 - 3) (l.length - 3) 11 (l.length - 4 - 11) (l.length - 11) 19 (l.length - 4 - 19) (l.length - 19) o4 (l.length - 4 - o4) (l.length - o4) o5 (l.length - 4 - o5) (l.length - o5) o7 (l.length - 4 - o7) (l.length - o7) false false false d4 d5 false (EndsR l))
        ⟨lenA _, ifB_mk (fun h => absurd (of_decide_eq_true ((ltF_nn _ _).symm.trans h)) (by omega)) fun _ => ⟨still_of (idx_at (k := 0) sl25 (by omega)), ldA (by kernel_rfl) (by omega), ifB_mk (fun h => failR (by decide) fun g => by rw [(good_marks g).1] at h; cases h) fun _ => ⟨still_of (idx_at (k := 1) sl25 (by omega)), ldA (by kernel_rfl) (by omega), ifB_mk (fun h => failR (by decide) fun g => by rw [(good_marks g).2] at h; cases h) fun _ => ⟨lenA _, slA h23 (by omega), at_tab rfl (tabC_hd ..), at_tab rfl ((tabC_tln rfl).trans (tabC_hd ..)), at_tab rfl ((tabC_tln rfl).trans ((tabC_tln rfl).trans (tabC_hd ..))), eql_int _ q2, at_tab rfl ((tabC_tln rfl).trans ((tabC_tln rfl).trans ((tabC_tln rfl).trans (tabC_hd ..)))), eql_int _ q2, at_tab rfl ((tabC_tln rfl).trans ((tabC_tln rfl).trans ((tabC_tln rfl).trans ((tabC_tln rfl).trans (tabC_hd ..))))), at_tab rfl ((tabC_tln rfl).trans ((tabC_tln rfl).trans ((tabC_tln rfl).trans ((tabC_tln rfl).trans ((tabC_tln rfl).trans (tabC_hd ..)))))), at_tab rfl ((tabC_tln rfl).trans ((tabC_tln rfl).trans ((tabC_tln rfl).trans ((tabC_tln rfl).trans ((tabC_tln rfl).trans ((tabC_tln rfl).trans (tabC_hd ..))))))), ifB_mk (fun h1 => ⟨at_tab rfl ((tabC_tln rfl).trans ((tabC_tln rfl).trans ((tabC_tln rfl).trans ((tabC_tln rfl).trans ((tabC_tln rfl).trans ((tabC_tln rfl).trans ((tabC_tln rfl).trans (tabC_hd ..)))))))), ifB_mk (fun h2 => ?_) fun h2 => ⟨⟨⟨rfl, by kernel_rfl⟩, trivial⟩, failR (by decide) fun g => by rw [(hg.1 g).2.1] at h2; cases h2⟩⟩) fun h1 => ⟨⟨⟨rfl, by kernel_rfl⟩, trivial⟩, failR (by decide) fun g => by rw [(hg.1 g).1] at h1; cases h1⟩⟩⟩⟩⟩)
      have hs : ∀ S : ASt, S.h.get 0 = some (R0 l) → aConvert EP 25 9 (.slice (some (0, 0)) l.length (.atl l.length)) S = some (.str l, S) := fun S hS => conv (SlB.row hS takeU) hB
      refine ⟨at_tab rfl ((tabC_tln rfl).trans ((tabC_tln rfl).trans ((tabC_tln rfl).trans ((tabC_tln rfl).trans ((tabC_tln rfl).trans ((tabC_tln rfl).trans ((tabC_tln rfl).trans ((tabC_tlf rfl).trans (tabC_hd ..))))))))), conv (SlB.row (cs := (bdD (x1 l) (x2 l) y z ((l.drop o6).take nw)).map cellU) (rw := true) (by kernel_rfl) (taken _ (by rw [bdD_len, lW]; omega))) (nats_lt (U8app (U8app (U8app (U8app (U8hd (by decide) _ _) (U8app (U8be _) (U8be _))) (U8two _)) (U8c bW)) (U8tl _))), hs _ (by kernel_rfl), neq_str _ _, ifB_mk (fun h3 => ⟨?_, failR (by decide) fun g => ?_⟩) fun h3 => ⟨?_, ?_⟩⟩
      · rw [hs _ (by kernel_rfl)]
        simp [holdsO, fstO, avEq]
      · rw [(hg.1 g).2.2] at h3
        simp at h3
      · rw [hs _ (by kernel_rfl)]
        simp [holdsO, fstO, avEq]
      · have h3' : bdD (x1 l) (x2 l) y z ((l.drop o6).take nw) = l := by simpa using h3
        have g := hg.2 ⟨h1, h2, h3'⟩
        refine goodR (by decide) g ?_
        obtain ⟨_, _, hy, hz, hn, h6, h7⟩ := hgb g
        unfold pkA
        rw [hw, k2, hy, hz, hn, h6]
        rfl
end
end Go.Proofs.Ytlnohbilfogheaa.rof
end
