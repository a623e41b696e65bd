/-
  OWN WORK, A PART: an abstract machine for the program's text that the kernel can run, and the proof that it is sound: what it answers is what the program answers; contracts of functions by it. No condition.
-/
import Derived.Test.YtlnohbilfogheaaRows
import Derived.Test.YtlnohbilfogheaaPrF
import Derived.KernelRfl
import Derived.Test.YtlnohbilfogheaaQp
section
open Go Go.Ax Go.Proofs.Ytlnohbilfogheaa
namespace Go.Proofs.Ytlnohbilfogheaa.rdr
set_option linter.unusedVariables false
noncomputable def fns : List (Nat × Func) := [(93, Try.f93), (78, Try.f78), (62, Try.f62)]
noncomputable def E : Env := envEx Try.prog [0, 3, 4, 5, 25, 28, 106, 140, 141] fns []
def fl0 : Fl := ⟨[], [], [], []⟩
def nI (n : Nat) : AV := .int .i64 (.ofNat n)
noncomputable def flsC : List (Nat × Fl) := [(93, ⟨[29, 41, 48, 4095], [], [30], []⟩)]
noncomputable def rd (V : AV) (bad : Bool) : AO := .cells [V, .bool bad, .bool true] true
noncomputable def stR (R : AO) (V : AV) (bad : Bool) : ASt := mkSt [(0, R), (1, rd V bad)] 2
noncomputable def tCb (s : Nat) (V : AV) (R : AO) : Tr (AV × ASt) := (TM E noSum [(93, fl0)] fl0 60).call 93 [.ptr (some (1, 0)), nI s] (stR R V true)
noncomputable def tC (n s : Nat) (V V' W : AV) (R : AO) : Tr (AV × ASt) := (TM E noSum flsC fl0 60).call 93 [.ptr (some (1, 0)), nI s] (stR R V false)
noncomputable def flsN : List (Nat × Fl) := [(93, ⟨[29, 41, 48, 4095], [], [30], []⟩), (62, ⟨[17, 18], [13], [], []⟩)]
noncomputable def tN1 (n o : Nat) (b0 : Int) (V V' : AV) (R : AO) : Tr (AV × ASt) := (TM E noSum flsN fl0 60).call 62 [.ptr (some (1, 0)), nI 1] (stR R V false)
noncomputable def tN2 (n o : Nat) (b0 b1 : Int) (V V' : AV) (R : AO) : Tr (AV × ASt) := (TM E noSum flsN fl0 60).call 62 [.ptr (some (1, 0)), nI 2] (stR R V false)
noncomputable def tN8 (n o : Nat) (b0 b1 b2 b3 b4 b5 b6 b7 : Int) (V V' : AV) (R : AO) : Tr (AV × ASt) := (TM E noSum flsN fl0 60).call 62 [.ptr (some (1, 0)), nI 8] (stR R V false)
noncomputable def tNb1 (V : AV) (R : AO) : Tr (AV × ASt) := (TM E noSum [(93, fl0), (62, fl0)] fl0 60).call 62 [.ptr (some (1, 0)), nI 1] (stR R V true)
noncomputable def tNb2 (V : AV) (R : AO) : Tr (AV × ASt) := (TM E noSum [(93, fl0), (62, fl0)] fl0 60).call 62 [.ptr (some (1, 0)), nI 2] (stR R V true)
noncomputable def tNb8 (V : AV) (R : AO) : Tr (AV × ASt) := (TM E noSum [(93, fl0), (62, fl0)] fl0 60).call 62 [.ptr (some (1, 0)), nI 8] (stR R V true)
noncomputable def vcCb_s0 (V : AV) (R : AO) : ASt := mkSt [(0, R), (1, .cells [V, .bool true, .bool true] true)] 2
theorem vcCb (s : Nat) (V : AV) (R : AO) (Q : AV × ASt → Prop) :
  (Q (.slice none 0 (.known 0), vcCb_s0 V R)) =
  (tCb s V R).allY (fun r => Q (r.1, canS [0, 1] r.2)) (.nil) := by kernel_rfl
noncomputable def vcC_s0 (V : AV) (R : AO) : ASt := mkSt [(0, R), (1, .cells [V, .bool false, .bool true] true)] 2
noncomputable def vcC_s1 (V : AV) (R : AO) : ASt := mkSt [(0, R), (1, .cells [V, .bool true, .bool true] true)] 2
noncomputable def vcC_s2 (V' : AV) (R : AO) : ASt := mkSt [(0, R), (1, .cells [V', .bool false, .bool true] true)] 2
theorem vcC (n s : Nat) (V V' W : AV) (R : AO) (Q : AV × ASt → Prop) :
  (aBuiltinM E .len [25] [V] (vcC_s0 V R) = some (.int .i64 (.ofNat n), vcC_s0 V R) ∧ ifB (ltF (.ofNat n) (.ofNat s)) (Option.map (fun s => (undefA, s)) (aStore E 4 (.ptr (some (1, 1))) (.bool true) (vcC_s0 V R)) = some (.tuple [], vcC_s1 V R) ∧ Q (.slice none 0 (.known 0), vcC_s1 V R)) (still (vcC_s0 V R) (aSlice E 25 V none (some (.int .i64 (.ofNat s))) (some (.int .i64 (.ofNat s))) (vcC_s0 V R)) = some (W, vcC_s0 V R) ∧ still (vcC_s0 V R) (aSlice E 25 V (some (.int .i64 (.ofNat s))) none none (vcC_s0 V R)) = some (V', vcC_s0 V R) ∧ Option.map (fun s => (undefA, s)) (aStore E 25 (.ptr (some (1, 0))) V' (vcC_s0 V R)) = some (.tuple [], vcC_s2 V' R) ∧ Q (W, vcC_s2 V' R))) =
  (tC n s V V' W R).allY (fun r => Q (r.1, canS [0, 1] r.2)) (.v (.int .i64 (.ofNat n), vcC_s0 V R) (.b (.v (.tuple [], vcC_s1 V R) .nil) (.v (W, vcC_s0 V R) (.v (V', vcC_s0 V R) (.v (.tuple [], vcC_s2 V' R) .nil))))) := by kernel_rfl
noncomputable def vcNb1_s0 (V : AV) (R : AO) : ASt := mkSt [(0, R), (1, .cells [V, .bool true, .bool true] true)] 2
theorem vcNb1 (V : AV) (R : AO) (Q : AV × ASt → Prop) :
  (Q (.int .u64 (.ofNat 0), vcNb1_s0 V R)) =
  (tNb1 V R).allY (fun r => Q (r.1, canS [0, 1] r.2)) (.nil) := by kernel_rfl
noncomputable def vcNb2_s0 (V : AV) (R : AO) : ASt := mkSt [(0, R), (1, .cells [V, .bool true, .bool true] true)] 2
theorem vcNb2 (V : AV) (R : AO) (Q : AV × ASt → Prop) :
  (Q (.int .u64 (.ofNat 0), vcNb2_s0 V R)) =
  (tNb2 V R).allY (fun r => Q (r.1, canS [0, 1] r.2)) (.nil) := by kernel_rfl
noncomputable def vcNb8_s0 (V : AV) (R : AO) : ASt := mkSt [(0, R), (1, .cells [V, .bool true, .bool true] true)] 2
theorem vcNb8 (V : AV) (R : AO) (Q : AV × ASt → Prop) :
  (Q (.int .u64 (.ofNat 0), vcNb8_s0 V R)) =
  (tNb8 V R).allY (fun r => Q (r.1, canS [0, 1] r.2)) (.nil) := by kernel_rfl
noncomputable def vcN1_s0 (V : AV) (R : AO) : ASt := mkSt [(0, R), (1, .cells [V, .bool false, .bool true] true)] 2
noncomputable def vcN1_s1 (V : AV) (R : AO) : ASt := mkSt [(0, R), (1, .cells [V, .bool true, .bool true] true)] 2
noncomputable def vcN1_s2 (V' : AV) (R : AO) : ASt := mkSt [(0, R), (1, .cells [V', .bool false, .bool true] true)] 2
theorem vcN1 (n o : Nat) (b0 : Int) (V V' : AV) (R : AO) (Q : AV × ASt → Prop) :
  (aBuiltinM E .len [25] [V] (vcN1_s0 V R) = some (.int .i64 (.ofNat n), vcN1_s0 V R) ∧ ifB (ltF (.ofNat n) (.ofNat 1)) (Option.map (fun s => (undefA, s)) (aStore E 4 (.ptr (some (1, 1))) (.bool true) (vcN1_s0 V R)) = some (.tuple [], vcN1_s1 V R) ∧ Q (.int .u64 (.ofNat 0), vcN1_s1 V R)) (still (vcN1_s0 V R) (aSlice E 25 V none (some (.int .i64 (.ofNat 1))) (some (.int .i64 (.ofNat 1))) (vcN1_s0 V R)) = some (.slice (some (0, o)) 1 (.known 1), vcN1_s0 V R) ∧ still (vcN1_s0 V R) (aSlice E 25 V (some (.int .i64 (.ofNat 1))) none none (vcN1_s0 V R)) = some (V', vcN1_s0 V R) ∧ Option.map (fun s => (undefA, s)) (aStore E 25 (.ptr (some (1, 0))) V' (vcN1_s0 V R)) = some (.tuple [], vcN1_s2 V' R) ∧ still (vcN1_s2 V' R) (aIndexAddr E 25 (.slice (some (0, o)) 1 (.known 1)) (.int .i64 (.ofNat 0))) = some (.ptr (some (0, o + 0)), vcN1_s2 V' R) ∧ aLoad E 5 (.ptr (some (0, o + 0))) (vcN1_s2 V' R) = some (.int .u8 b0, vcN1_s2 V' R) ∧ Q (.int .u64 (wrapF .u64 (.ofNat (Nat.lor 0 (modN (wrapF .u64 b0) 18446744073709551616)))), vcN1_s2 V' R))) =
  (tN1 n o b0 V V' R).allY (fun r => Q (r.1, canS [0, 1] r.2)) (.v (.int .i64 (.ofNat n), vcN1_s0 V R) (.b (.v (.tuple [], vcN1_s1 V R) .nil) (.v (.slice (some (0, o)) 1 (.known 1), vcN1_s0 V R) (.v (V', vcN1_s0 V R) (.v (.tuple [], vcN1_s2 V' R) (.v (.ptr (some (0, o + 0)), vcN1_s2 V' R) (.v (.int .u8 b0, vcN1_s2 V' R) .nil))))))) := by kernel_rfl
noncomputable def vcN2_s0 (V : AV) (R : AO) : ASt := mkSt [(0, R), (1, .cells [V, .bool false, .bool true] true)] 2
noncomputable def vcN2_s1 (V : AV) (R : AO) : ASt := mkSt [(0, R), (1, .cells [V, .bool true, .bool true] true)] 2
noncomputable def vcN2_s2 (V' : AV) (R : AO) : ASt := mkSt [(0, R), (1, .cells [V', .bool false, .bool true] true)] 2
theorem vcN2 (n o : Nat) (b0 b1 : Int) (V V' : AV) (R : AO) (Q : AV × ASt → Prop) :
  (aBuiltinM E .len [25] [V] (vcN2_s0 V R) = some (.int .i64 (.ofNat n), vcN2_s0 V R) ∧ ifB (ltF (.ofNat n) (.ofNat 2)) (Option.map (fun s => (undefA, s)) (aStore E 4 (.ptr (some (1, 1))) (.bool true) (vcN2_s0 V R)) = some (.tuple [], vcN2_s1 V R) ∧ Q (.int .u64 (.ofNat 0), vcN2_s1 V R)) (still (vcN2_s0 V R) (aSlice E 25 V none (some (.int .i64 (.ofNat 2))) (some (.int .i64 (.ofNat 2))) (vcN2_s0 V R)) = some (.slice (some (0, o)) 2 (.known 2), vcN2_s0 V R) ∧ still (vcN2_s0 V R) (aSlice E 25 V (some (.int .i64 (.ofNat 2))) none none (vcN2_s0 V R)) = some (V', vcN2_s0 V R) ∧ Option.map (fun s => (undefA, s)) (aStore E 25 (.ptr (some (1, 0))) V' (vcN2_s0 V R)) = some (.tuple [], vcN2_s2 V' R) ∧ still (vcN2_s2 V' R) (aIndexAddr E 25 (.slice (some (0, o)) 2 (.known 2)) (.int .i64 (.ofNat 0))) = some (.ptr (some (0, o + 0)), vcN2_s2 V' R) ∧ aLoad E 5 (.ptr (some (0, o + 0))) (vcN2_s2 V' R) = some (.int .u8 b0, vcN2_s2 V' R) ∧ still (vcN2_s2 V' R) (aIndexAddr E 25 (.slice (some (0, o)) 2 (.known 2)) (.int .i64 (.ofNat 1))) = some (.ptr (some (0, o + 1)), vcN2_s2 V' R) ∧ aLoad E 5 (.ptr (some (0, o + 1))) (vcN2_s2 V' R) = some (.int .u8 b1, vcN2_s2 V' R) ∧ Q (.int .u64 (wrapF .u64 (.ofNat (Nat.lor (modN (shlF .u64 (wrapF .u64 (.ofNat (Nat.lor 0 (modN (wrapF .u64 b0) 18446744073709551616)))) 8) 18446744073709551616) (modN (wrapF .u64 b1) 18446744073709551616)))), vcN2_s2 V' R))) =
  (tN2 n o b0 b1 V V' R).allY (fun r => Q (r.1, canS [0, 1] r.2)) (.v (.int .i64 (.ofNat n), vcN2_s0 V R) (.b (.v (.tuple [], vcN2_s1 V R) .nil) (.v (.slice (some (0, o)) 2 (.known 2), vcN2_s0 V R) (.v (V', vcN2_s0 V R) (.v (.tuple [], vcN2_s2 V' R) (.v (.ptr (some (0, o + 0)), vcN2_s2 V' R) (.v (.int .u8 b0, vcN2_s2 V' R) (.v (.ptr (some (0, o + 1)), vcN2_s2 V' R) (.v (.int .u8 b1, vcN2_s2 V' R) .nil))))))))) := by kernel_rfl
noncomputable def vcN8_s0 (V : AV) (R : AO) : ASt := mkSt [(0, R), (1, .cells [V, .bool false, .bool true] true)] 2
noncomputable def vcN8_s1 (V : AV) (R : AO) : ASt := mkSt [(0, R), (1, .cells [V, .bool true, .bool true] true)] 2
noncomputable def vcN8_s2 (V' : AV) (R : AO) : ASt := mkSt [(0, R), (1, .cells [V', .bool false, .bool true] true)] 2
theorem vcN8 (n o : Nat) (b0 b1 b2 b3 b4 b5 b6 b7 : Int) (V V' : AV) (R : AO) (Q : AV × ASt → Prop) :
  (aBuiltinM E .len [25] [V] (vcN8_s0 V R) = some (.int .i64 (.ofNat n), vcN8_s0 V R) ∧ ifB (ltF (.ofNat n) (.ofNat 8)) (Option.map (fun s => (undefA, s)) (aStore E 4 (.ptr (some (1, 1))) (.bool true) (vcN8_s0 V R)) = some (.tuple [], vcN8_s1 V R) ∧ Q (.int .u64 (.ofNat 0), vcN8_s1 V R)) (still (vcN8_s0 V R) (aSlice E 25 V none (some (.int .i64 (.ofNat 8))) (some (.int .i64 (.ofNat 8))) (vcN8_s0 V R)) = some (.slice (some (0, o)) 8 (.known 8), vcN8_s0 V R) ∧ still (vcN8_s0 V R) (aSlice E 25 V (some (.int .i64 (.ofNat 8))) none none (vcN8_s0 V R)) = some (V', vcN8_s0 V R) ∧ Option.map (fun s => (undefA, s)) (aStore E 25 (.ptr (some (1, 0))) V' (vcN8_s0 V R)) = some (.tuple [], vcN8_s2 V' R) ∧ still (vcN8_s2 V' R) (aIndexAddr E 25 (.slice (some (0, o)) 8 (.known 8)) (.int .i64 (.ofNat 0))) = some (.ptr (some (0, o + 0)), vcN8_s2 V' R) ∧ aLoad E 5 (.ptr (some (0, o + 0))) (vcN8_s2 V' R) = some (.int .u8 b0, vcN8_s2 V' R) ∧ still (vcN8_s2 V' R) (aIndexAddr E 25 (.slice (some (0, o)) 8 (.known 8)) (.int .i64 (.ofNat 1))) = some (.ptr (some (0, o + 1)), vcN8_s2 V' R) ∧ aLoad E 5 (.ptr (some (0, o + 1))) (vcN8_s2 V' R) = some (.int .u8 b1, vcN8_s2 V' R) ∧ still (vcN8_s2 V' R) (aIndexAddr E 25 (.slice (some (0, o)) 8 (.known 8)) (.int .i64 (.ofNat 2))) = some (.ptr (some (0, o + 2)), vcN8_s2 V' R) ∧ aLoad E 5 (.ptr (some (0, o + 2))) (vcN8_s2 V' R) = some (.int .u8 b2, vcN8_s2 V' R) ∧ still (vcN8_s2 V' R) (aIndexAddr E 25 (.slice (some (0, o)) 8 (.known 8)) (.int .i64 (.ofNat 3))) = some (.ptr (some (0, o + 3)), vcN8_s2 V' R) ∧ aLoad E 5 (.ptr (some (0, o + 3))) (vcN8_s2 V' R) = some (.int .u8 b3, vcN8_s2 V' R) ∧ still (vcN8_s2 V' R) (aIndexAddr E 25 (.slice (some (0, o)) 8 (.known 8)) (.int .i64 (.ofNat 4))) = some (.ptr (some (0, o + 4)), vcN8_s2 V' R) ∧ aLoad E 5 (.ptr (some (0, o + 4))) (vcN8_s2 V' R) = some (.int .u8 b4, vcN8_s2 V' R) ∧ still (vcN8_s2 V' R) (aIndexAddr E 25 (.slice (some (0, o)) 8 (.known 8)) (.int .i64 (.ofNat 5))) = some (.ptr (some (0, o + 5)), vcN8_s2 V' R) ∧ aLoad E 5 (.ptr (some (0, o + 5))) (vcN8_s2 V' R) = some (.int .u8 b5, vcN8_s2 V' R) ∧ still (vcN8_s2 V' R) (aIndexAddr E 25 (.slice (some (0, o)) 8 (.known 8)) (.int .i64 (.ofNat 6))) = some (.ptr (some (0, o + 6)), vcN8_s2 V' R) ∧ aLoad E 5 (.ptr (some (0, o + 6))) (vcN8_s2 V' R) = some (.int .u8 b6, vcN8_s2 V' R) ∧ still (vcN8_s2 V' R) (aIndexAddr E 25 (.slice (some (0, o)) 8 (.known 8)) (.int .i64 (.ofNat 7))) = some (.ptr (some (0, o + 7)), vcN8_s2 V' R) ∧ aLoad E 5 (.ptr (some (0, o + 7))) (vcN8_s2 V' R) = some (.int .u8 b7, vcN8_s2 V' R) ∧ Q (.int .u64 (wrapF .u64 (.ofNat (Nat.lor (modN (shlF .u64 (wrapF .u64 (.ofNat (Nat.lor (modN (shlF .u64 (wrapF .u64 (.ofNat (Nat.lor (modN (shlF .u64 (wrapF .u64 (.ofNat (Nat.lor (modN (shlF .u64 (wrapF .u64 (.ofNat (Nat.lor (modN (shlF .u64 (wrapF .u64 (.ofNat (Nat.lor (modN (shlF .u64 (wrapF .u64 (.ofNat (Nat.lor (modN (shlF .u64 (wrapF .u64 (.ofNat (Nat.lor 0 (modN (wrapF .u64 b0) 18446744073709551616)))) 8) 18446744073709551616) (modN (wrapF .u64 b1) 18446744073709551616)))) 8) 18446744073709551616) (modN (wrapF .u64 b2) 18446744073709551616)))) 8) 18446744073709551616) (modN (wrapF .u64 b3) 18446744073709551616)))) 8) 18446744073709551616) (modN (wrapF .u64 b4) 18446744073709551616)))) 8) 18446744073709551616) (modN (wrapF .u64 b5) 18446744073709551616)))) 8) 18446744073709551616) (modN (wrapF .u64 b6) 18446744073709551616)))) 8) 18446744073709551616) (modN (wrapF .u64 b7) 18446744073709551616)))), vcN8_s2 V' R))) =
  (tN8 n o b0 b1 b2 b3 b4 b5 b6 b7 V V' R).allY (fun r => Q (r.1, canS [0, 1] r.2)) (.v (.int .i64 (.ofNat n), vcN8_s0 V R) (.b (.v (.tuple [], vcN8_s1 V R) .nil) (.v (.slice (some (0, o)) 8 (.known 8), vcN8_s0 V R) (.v (V', vcN8_s0 V R) (.v (.tuple [], vcN8_s2 V' R) (.v (.ptr (some (0, o + 0)), vcN8_s2 V' R) (.v (.int .u8 b0, vcN8_s2 V' R) (.v (.ptr (some (0, o + 1)), vcN8_s2 V' R) (.v (.int .u8 b1, vcN8_s2 V' R) (.v (.ptr (some (0, o + 2)), vcN8_s2 V' R) (.v (.int .u8 b2, vcN8_s2 V' R) (.v (.ptr (some (0, o + 3)), vcN8_s2 V' R) (.v (.int .u8 b3, vcN8_s2 V' R) (.v (.ptr (some (0, o + 4)), vcN8_s2 V' R) (.v (.int .u8 b4, vcN8_s2 V' R) (.v (.ptr (some (0, o + 5)), vcN8_s2 V' R) (.v (.int .u8 b5, vcN8_s2 V' R) (.v (.ptr (some (0, o + 6)), vcN8_s2 V' R) (.v (.int .u8 b6, vcN8_s2 V' R) (.v (.ptr (some (0, o + 7)), vcN8_s2 V' R) (.v (.int .u8 b7, vcN8_s2 V' R) .nil))))))))))))))))))))) := by kernel_rfl
theorem Eok : Env.Ok Try.prog E := envEx_ok (xs := []) ⟨⟨Try.func93, Try.call93⟩, ⟨Try.func78, Try.call78⟩, ⟨Try.func62, Try.call62⟩, trivial⟩ trivial (by kernel_rfl)
def nilV : AV := .slice none 0 (.known 0)
def vAt (l : List Nat) (o : Nat) : AV := bif l.isEmpty then nilV else bif Nat.beq o l.length then .slice0 else .slice (some (0, o)) (l.length - o) (.rest 1)
def wAt (l : List Nat) (o s : Nat) : AV := bif l.isEmpty then nilV else bif Nat.beq o l.length then .slice0 else .slice (some (0, o)) s (.known s)
def obR (l : List Nat) : AO := bif l.isEmpty then .dead else .cells (l.map cellU) true
section
variable {l : List Nat} {o s : Nat} {S : ASt} {bad : Bool}
theorem forms (ho : o ≤ l.length) : (l = [] ∧ o = 0 ∧ vAt l o = nilV ∧ ∀ s, wAt l o s = nilV) ∨ (l ≠ [] ∧ o = l.length ∧ vAt l o = .slice0 ∧ ∀ s, wAt l o s = .slice0) ∨
    (l ≠ [] ∧ o < l.length ∧ vAt l o = .slice (some (0, o)) (l.length - o) (.rest 1) ∧ ∀ s, wAt l o s = .slice (some (0, o)) s (.known s)) := by
  cases l with
  | nil => exact .inl ⟨rfl, by simpa using ho, rfl, fun _ => rfl⟩
  | cons x l =>
    by_cases e : o = (x :: l).length
    · refine .inr (.inl ⟨by simp, e, ?_, fun s => ?_⟩) <;> simp [vAt, wAt, e]
    · have hb : Nat.beq o (x :: l).length = false := by
        cases hh : Nat.beq o (x :: l).length
        · rfl
        · exact absurd (Nat.eq_of_beq_eq_true hh) e
      refine .inr (.inr ⟨by simp, by omega, ?_, fun s => ?_⟩)
      · unfold vAt; rw [hb]; rfl
      · unfold wAt; rw [hb]; rfl
theorem lenV (ho : o ≤ l.length) : aBuiltinM E .len [25] [vAt l o] S = some (nI (l.length - o), S) := by
  rcases forms ho with ⟨rfl, rfl, e, _⟩ | ⟨_, rfl, e, _⟩ | ⟨_, _, e, _⟩
  · rw [e]; kernel_rfl
  · rw [e, Nat.sub_self]; kernel_rfl
  · rw [e]; kernel_rfl
theorem roomR {n : Nat} (h0 : l ≠ []) (hS : S.h.get 0 = some (obR l)) (hn : n = l.length - o) : aRoom S 0 o 1 n = n := by
  have e : obR l = .cells (l.map cellU) true := by cases l with | nil => exact absurd rfl h0 | cons x l => rfl
  unfold aRoom
  rw [hS, e]
  show (bif Nat.beq 1 0 then n else Nat.max n (Nat.div (Nat.sub (l.map cellU).length o) 1)) = n
  have e2 : Nat.div (Nat.sub (l.map cellU).length o) 1 = n := by
    rw [List.length_map, hn]
    exact Nat.div_one _
  rw [e2]
  exact Nat.max_self n
theorem ble_t {a b : Nat} (h : a ≤ b) : Nat.ble a b = true := Nat.ble_eq.symm ▸ h
theorem cutV (ho : o ≤ l.length) (hs : s ≤ l.length - o) (hS : S.h.get 0 = some (obR l)) :
    still S (aSlice E 25 (vAt l o) none (some (nI s)) (some (nI s)) S) = some (wAt l o s, S) := by
  refine still_of ?_
  rcases forms ho with ⟨rfl, rfl, e, e2⟩ | ⟨_, rfl, e, e2⟩ | ⟨h0, hlt, e, e2⟩
  · have : s = 0 := by simpa using hs
    subst this
    rw [e, e2]; show _ = _; kernel_rfl
  · have : s = 0 := by omega
    subst this
    rw [e, e2]; show _ = _; kernel_rfl
  · rw [e, e2]
    have e3 : aSlice E 25 (.slice (some (0, o)) (l.length - o) (.rest 1)) none (some (nI s)) (some (nI s)) S =
      (match aBounds (l.length - o) (aRoom S 0 o 1 (l.length - o)) none (some s) (some s) with
        | some (a, h, m) => some (.slice (some (0, bif Nat.beq m a then o else o + a * 1)) (h - a) (.known (m - a))) | none => none) := by kernel_rfl
    rw [e3, roomR h0 hS rfl]
    have e4 : aBounds (l.length - o) (l.length - o) none (some s) (some s) = some (0, s, s) := by
      unfold aBounds
      simp only [ble_t hs, ble_t (Nat.le_refl s), ble_t (Nat.zero_le s), cond_true]
    rw [e4]
    simp only [Nat.zero_mul, Nat.add_zero, Nat.sub_zero]
    cases Nat.beq s 0 <;> rfl
theorem restV (ho : o ≤ l.length) (hs : s ≤ l.length - o) (hS : S.h.get 0 = some (obR l)) :
    still S (aSlice E 25 (vAt l o) (some (nI s)) none none S) = some (vAt l (o + s), S) := by
  refine still_of ?_
  rcases forms ho with ⟨rfl, rfl, e, e2⟩ | ⟨h0, rfl, e, e2⟩ | ⟨h0, hlt, e, e2⟩
  · have : s = 0 := by simpa using hs
    subst this
    rw [e]; show _ = _; kernel_rfl
  · have : s = 0 := by omega
    subst this
    rw [Nat.add_zero, e]; show _ = _; kernel_rfl
  · rw [e]
    have e3 : aSlice E 25 (.slice (some (0, o)) (l.length - o) (.rest 1)) (some (nI s)) none none S =
      (match aBounds (l.length - o) (aRoom S 0 o 1 (l.length - o)) (some s) none none with
        | some (a, h, m) => (bif Nat.blt a (aRoom S 0 o 1 (l.length - o)) then some (.slice (some (0, o + a * 1)) (h - a) (.rest 1)) else bif Nat.beq a 0 then some (.slice (some (0, o)) 0 (.rest 1)) else some .slice0) | none => none) := by kernel_rfl
    rw [e3, roomR h0 hS rfl, bounds_from hs]
    simp only
    have hne : l.isEmpty = false := by cases l with | nil => exact absurd rfl h0 | cons x l => rfl
    by_cases hlt2 : s < l.length - o
    · rw [blt_t hlt2]
      have hb : Nat.beq (o + s) l.length = false := by
        cases hh : Nat.beq (o + s) l.length
        · rfl
        · have := Nat.eq_of_beq_eq_true hh; omega
      simp only [vAt, hne, hb, cond_true, cond_false, Nat.mul_one, Nat.sub_sub]
    · have es : s = l.length - o := by omega
      have hb1 : Nat.blt s (l.length - o) = false := by
        cases hh : Nat.blt s (l.length - o)
        · rfl
        · have := Nat.le_of_ble_eq_true hh; omega
      have hb0 : Nat.beq s 0 = false := by
        cases hh : Nat.beq s 0
        · rfl
        · have := Nat.eq_of_beq_eq_true hh; omega
      have hb : Nat.beq (o + s) l.length = true := by rw [show o + s = l.length by omega]; exact Nat.beq_refl _
      rw [hb1, hb0]
      simp only [vAt, hne, hb, cond_true, cond_false]
theorem storeV {R : AO} {V : AV} (ho : o ≤ l.length) : Option.map (fun s => (undefA, s)) (aStore E 25 (.ptr (some (1, 0))) (vAt l o) (mkSt [(0, R), (1, .cells [V, .bool false, .bool true] true)] 2)) =
    some (.tuple [], mkSt [(0, R), (1, .cells [vAt l o, .bool false, .bool true] true)] 2) := by
  rcases forms ho with ⟨rfl, rfl, e, e2⟩ | ⟨h0, rfl, e, e2⟩ | ⟨h0, hlt, e, e2⟩
  · rw [e]; kernel_rfl
  · rw [e]; kernel_rfl
  · rw [e]; kernel_rfl
theorem storeB {R : AO} {V : AV} : Option.map (fun s => (undefA, s)) (aStore E 4 (.ptr (some (1, 1))) (.bool true) (mkSt [(0, R), (1, .cells [V, .bool false, .bool true] true)] 2)) =
    some (.tuple [], mkSt [(0, R), (1, .cells [V, .bool true, .bool true] true)] 2) := by kernel_rfl
def AtS (P : Program) (f : Nat) (args : List AV) (S : ASt) (r : AV × ASt) : Prop := ∀ (B : Prot) (w0 : World) (ι : Ren) (w : World) (args' : Array Value), SR B w0 ι S w → VRs ι args args' →
  (callFunc f args').run P w = .ok (.enter f args') w ∧ CallsIn Fence.wide 0 P f args' w fun e w' => ∃ v, v = r ∧ Post B w0 ι v e w'
def toO (l : List Nat) (o : Nat) (bad : Bool) (s : Nat) : Nat := bif bad then o else bif Nat.blt (l.length - o) s then o else o + s
def toB (l : List Nat) (o : Nat) (bad : Bool) (s : Nat) : Bool := bif bad then true else Nat.blt (l.length - o) s
def cutW (l : List Nat) (o : Nat) (bad : Bool) (s : Nat) : AV := bif toB l o bad s then nilV else wAt l o s
noncomputable def stL (l : List Nat) (o : Nat) (bad : Bool) : ASt := stR (obR l) (vAt l o) bad
theorem stL0 : (stL l o bad).h.get 0 = some (obR l) := by kernel_rfl
theorem cutRun (ho : o ≤ l.length) : AtS Try.prog 93 [.ptr (some (1, 0)), nI s] (stL l o bad) (cutW l o bad s, stL l (toO l o bad s) (toB l o bad s)) := by
  cases bad with
  | true =>
    refine run_of_tm Eok noSum_ok (Eq.mp (vcCb s (vAt l o) (obR l) (fun v => v = (cutW l o true s, stL l (toO l o true s) (toB l o true s)))) rfl)
  | false =>
    refine run_of_tm Eok noSum_ok (Eq.mp (vcC (l.length - o) s (vAt l o) (vAt l (o + s)) (wAt l o s) (obR l) (fun v => v = (cutW l o false s, stL l (toO l o false s) (toB l o false s)))) ⟨lenV ho, ifB_mk (fun h => ⟨storeB, ?_⟩) fun h => ?_⟩)
    · have e : Nat.blt (l.length - o) s = true := by rw [ltF_nn] at h; exact blt_t (of_decide_eq_true h)
      simp only [cutW, toO, toB, e, cond_true, cond_false]; rfl
    · have hs : s ≤ l.length - o := by
        rw [ltF_nn] at h
        have := of_decide_eq_false h
        omega
      have e : Nat.blt (l.length - o) s = false := by
        cases hh : Nat.blt (l.length - o) s
        · rfl
        · have := Nat.le_of_ble_eq_true hh; omega
      refine ⟨cutV ho hs (by kernel_rfl), restV ho hs (by kernel_rfl), storeV (by omega), ?_⟩
      simp only [cutW, toO, toB, e, cond_false]; rfl
end
end Go.Proofs.Ytlnohbilfogheaa.rdr
end

section
open Go Go.Ax Go.Proofs.Ytlnohbilfogheaa
namespace Go.Proofs.Ytlnohbilfogheaa.rdr
set_option linter.unusedVariables false
def beN (l : List Nat) (o : Nat) : Nat → Nat
  | 0 => 0
  | k + 1 => 256 * beN l o k + l.getD (o + k) 0
def numV (l : List Nat) (o : Nat) (bad : Bool) (k : Nat) : Nat := bif toB l o bad k then 0 else beN l o k
section
variable {l : List Nat} {o s : Nat} {S : ASt} {bad : Bool}
theorem getD_lt (hB : ∀ x, x ∈ l → x < 256) {i : Nat} : l.getD i 0 < 256 := by
  rw [List.getD_eq_getElem?_getD]
  cases h : l[i]? with
  | none => simp
  | some x => exact hB x (List.mem_of_getElem? h)
theorem beN_lt (h : ∀ i, l.getD (o + i) 0 < 256) : ∀ k, k ≤ 8 → beN l o k < 256 ^ k
  | 0, _ => by simp [beN]
  | k + 1, hk => by
    have := beN_lt h k (by omega)
    have h2 := h k
    simp only [beN, Nat.pow_succ]
    omega
theorem wrapU64' {m : Nat} (h : m < 18446744073709551616) : wrapF .u64 (.ofNat m) = .ofNat m := by
  have e : modN (.ofNat m) (big .u64) = m := Nat.mod_eq_of_lt h
  unfold wrapF
  have hb : Nat.blt (modN (.ofNat m) (big .u64)) (half .u64) = true := by rw [e]; exact blt_t h
  show (bif Nat.blt (modN (.ofNat m) (big .u64)) (half .u64) then Int.ofNat (modN (.ofNat m) (big .u64)) else _) = _
  rw [hb, e]; rfl
theorem modO {m : Nat} (h : m < 18446744073709551616) : modN (.ofNat m) 18446744073709551616 = m := Nat.mod_eq_of_lt h
theorem st0 (hb : l.getD (o + 0) 0 < 256) : wrapF .u64 (Int.ofNat (Nat.lor 0 (modN (wrapF .u64 (.ofNat (l.getD (o + 0) 0))) 18446744073709551616))) = .ofNat (beN l o 1) := by
  show _ = Int.ofNat (256 * 0 + l.getD (o + 0) 0)
  generalize l.getD (o + 0) 0 = b at hb
  rw [wrapU64' (m := b) (by omega), modO (by omega)]
  have : Nat.lor 0 b = b := Nat.zero_or b
  rw [this, wrapU64' (by omega), Nat.mul_zero, Nat.zero_add]
theorem st1 {k : Nat} (hx : beN l o k < 256 ^ k) (hk : k ≤ 7) (hb : l.getD (o + k) 0 < 256) :
    wrapF .u64 (Int.ofNat (Nat.lor (modN (shlF .u64 (.ofNat (beN l o k)) 8) 18446744073709551616) (modN (wrapF .u64 (.ofNat (l.getD (o + k) 0))) 18446744073709551616))) = .ofNat (beN l o (k + 1)) := by
  show _ = Int.ofNat (256 * beN l o k + l.getD (o + k) 0)
  generalize l.getD (o + k) 0 = b at hb
  generalize beN l o k = x at hx
  have hx7 : x < 72057594037927936 := Nat.lt_of_lt_of_le hx (Nat.pow_le_pow_right (by omega) hk)
  have e : shlF .u64 (.ofNat x) 8 = .ofNat (256 * x) := by
    show wrapF .u64 (.ofNat (x * 256)) = _
    rw [wrapU64' (by omega), Nat.mul_comm]
  rw [e, wrapU64' (m := b) (by omega), modO (by omega), modO (by omega)]
  have : Nat.lor (256 * x) b = 256 * x + b := (Nat.two_pow_add_eq_or_of_lt (i := 8) hb x).symm
  rw [this, wrapU64' (by omega)]
theorem idxK {S : ASt} {x : Option AV} {v : AV} (h : x = some v) : still S x = some (v, S) := still_of h
theorem ldK {V : AV} {bb : Bool} {n : Nat} (hok : o + n ≤ l.length) (hS : ∀ {V : AV} {bb : Bool}, (stR (obR l) V bb).h.get 0 = some (obR l)) (i : Nat) (hi : i < n) :
    aLoad E 5 (.ptr (some (0, o + i))) (stR (obR l) V bb) = some (.int .u8 (.ofNat (l.getD (o + i) 0)), stR (obR l) V bb) := by
  have hlt : o + i < l.length := by omega
  have e : obR l = .cells (l.map cellU) true := by cases l with | nil => simp at hlt | cons x l => rfl
  refine load_at (cs := l.map cellU) (rw := true) (by kernel_rfl) (hS.trans (by rw [e])) ?_
  rw [List.getElem?_map, List.getD_eq_getElem?_getD, List.getElem?_eq_getElem hlt]; rfl
theorem num1 (ho : o ≤ l.length) (hB : ∀ x, x ∈ l → x < 256) : AtS Try.prog 62 [.ptr (some (1, 0)), nI 1] (stL l o bad) (.int .u64 (.ofNat (numV l o bad 1)), stL l (toO l o bad 1) (toB l o bad 1)) := by
  cases bad with
  | true => exact run_of_tm Eok noSum_ok (Eq.mp (vcNb1 (vAt l o) (obR l) (fun v => v = (.int .u64 (.ofNat (numV l o true 1)), stL l (toO l o true 1) (toB l o true 1)))) rfl)
  | false =>
    by_cases hk : l.length - o < 1
    · have e : Nat.blt (l.length - o) 1 = true := blt_t hk
      refine run_of_tm Eok noSum_ok (Eq.mp (vcN1 (l.length - o) o 0 (vAt l o) (vAt l o) (obR l) (fun v => v = (.int .u64 (.ofNat (numV l o false 1)), stL l (toO l o false 1) (toB l o false 1)))) ⟨lenV ho, ifB_mk (fun h => ⟨storeB, ?_⟩) fun h => ?_⟩)
      · simp only [numV, toO, toB, e, cond_true, cond_false]; rfl
      · rw [ltF_nn] at h
        exact absurd hk (of_decide_eq_false h)
    · have hs : 1 ≤ l.length - o := by omega
      have hok : o + 1 ≤ l.length := by omega
      have e : Nat.blt (l.length - o) 1 = false := by
        cases hh : Nat.blt (l.length - o) 1
        · rfl
        · have := Nat.le_of_ble_eq_true hh; omega
      have hW : wAt l o 1 = .slice (some (0, o)) 1 (.known 1) := by
        rcases forms ho with ⟨rfl, _, _, _⟩ | ⟨_, rfl, _, _⟩ | ⟨_, _, _, e2⟩
        · simp at hs
        · omega
        · exact e2 1
      have hS : ∀ {V : AV} {bb : Bool}, (stR (obR l) V bb).h.get 0 = some (obR l) := by intros; kernel_rfl
      refine run_of_tm Eok noSum_ok (Eq.mp (vcN1 (l.length - o) o (.ofNat (l.getD (o + 0) 0)) (vAt l o) (vAt l (o + 1)) (obR l) (fun v => v = (.int .u64 (.ofNat (numV l o false 1)), stL l (toO l o false 1) (toB l o false 1)))) ⟨lenV ho, ifB_mk (fun h => ?_) fun h => ⟨(cutV ho hs (hS (V := vAt l o) (bb := false))).trans (by rw [hW]; rfl), restV ho hs (hS (V := vAt l o) (bb := false)), storeV (by omega), idxK (by kernel_rfl), ldK hok hS (0 : Nat) (by omega), ?_⟩⟩)
      · rw [ltF_nn] at h
        exact absurd (of_decide_eq_true h) (by omega)
      · simp only [numV, toO, toB, e, cond_false]
        have hb : ∀ i, l.getD (o + i) 0 < 256 := fun i => getD_lt hB
        rw [st0 (hb 0)]
        skip
        rfl
theorem num2 (ho : o ≤ l.length) (hB : ∀ x, x ∈ l → x < 256) : AtS Try.prog 62 [.ptr (some (1, 0)), nI 2] (stL l o bad) (.int .u64 (.ofNat (numV l o bad 2)), stL l (toO l o bad 2) (toB l o bad 2)) := by
  cases bad with
  | true => exact run_of_tm Eok noSum_ok (Eq.mp (vcNb2 (vAt l o) (obR l) (fun v => v = (.int .u64 (.ofNat (numV l o true 2)), stL l (toO l o true 2) (toB l o true 2)))) rfl)
  | false =>
    by_cases hk : l.length - o < 2
    · have e : Nat.blt (l.length - o) 2 = true := blt_t hk
      refine run_of_tm Eok noSum_ok (Eq.mp (vcN2 (l.length - o) o 0 0 (vAt l o) (vAt l o) (obR l) (fun v => v = (.int .u64 (.ofNat (numV l o false 2)), stL l (toO l o false 2) (toB l o false 2)))) ⟨lenV ho, ifB_mk (fun h => ⟨storeB, ?_⟩) fun h => ?_⟩)
      · simp only [numV, toO, toB, e, cond_true, cond_false]; rfl
      · rw [ltF_nn] at h
        exact absurd hk (of_decide_eq_false h)
    · have hs : 2 ≤ l.length - o := by omega
      have hok : o + 2 ≤ l.length := by omega
      have e : Nat.blt (l.length - o) 2 = false := by
        cases hh : Nat.blt (l.length - o) 2
        · rfl
        · have := Nat.le_of_ble_eq_true hh; omega
      have hW : wAt l o 2 = .slice (some (0, o)) 2 (.known 2) := by
        rcases forms ho with ⟨rfl, _, _, _⟩ | ⟨_, rfl, _, _⟩ | ⟨_, _, _, e2⟩
        · simp at hs
        · omega
        · exact e2 2
      have hS : ∀ {V : AV} {bb : Bool}, (stR (obR l) V bb).h.get 0 = some (obR l) := by intros; kernel_rfl
      refine run_of_tm Eok noSum_ok (Eq.mp (vcN2 (l.length - o) o (.ofNat (l.getD (o + 0) 0)) (.ofNat (l.getD (o + 1) 0)) (vAt l o) (vAt l (o + 2)) (obR l) (fun v => v = (.int .u64 (.ofNat (numV l o false 2)), stL l (toO l o false 2) (toB l o false 2)))) ⟨lenV ho, ifB_mk (fun h => ?_) fun h => ⟨(cutV ho hs (hS (V := vAt l o) (bb := false))).trans (by rw [hW]; rfl), restV ho hs (hS (V := vAt l o) (bb := false)), storeV (by omega), idxK (by kernel_rfl), ldK hok hS (0 : Nat) (by omega), idxK (by kernel_rfl), ldK hok hS (1 : Nat) (by omega), ?_⟩⟩)
      · rw [ltF_nn] at h
        exact absurd (of_decide_eq_true h) (by omega)
      · simp only [numV, toO, toB, e, cond_false]
        have hb : ∀ i, l.getD (o + i) 0 < 256 := fun i => getD_lt hB
        rw [st0 (hb 0)]
        rw [st1 (k := 1) (beN_lt hb 1 (by omega)) (by omega) (hb 1)]
        rfl
theorem num8 (ho : o ≤ l.length) (hB : ∀ x, x ∈ l → x < 256) : AtS Try.prog 62 [.ptr (some (1, 0)), nI 8] (stL l o bad) (.int .u64 (.ofNat (numV l o bad 8)), stL l (toO l o bad 8) (toB l o bad 8)) := by
  cases bad with
  | true => exact run_of_tm Eok noSum_ok (Eq.mp (vcNb8 (vAt l o) (obR l) (fun v => v = (.int .u64 (.ofNat (numV l o true 8)), stL l (toO l o true 8) (toB l o true 8)))) rfl)
  | false =>
    by_cases hk : l.length - o < 8
    · have e : Nat.blt (l.length - o) 8 = true := blt_t hk
      refine run_of_tm Eok noSum_ok (Eq.mp (vcN8 (l.length - o) o 0 0 0 0 0 0 0 0 (vAt l o) (vAt l o) (obR l) (fun v => v = (.int .u64 (.ofNat (numV l o false 8)), stL l (toO l o false 8) (toB l o false 8)))) ⟨lenV ho, ifB_mk (fun h => ⟨storeB, ?_⟩) fun h => ?_⟩)
      · simp only [numV, toO, toB, e, cond_true, cond_false]; rfl
      · rw [ltF_nn] at h
        exact absurd hk (of_decide_eq_false h)
    · have hs : 8 ≤ l.length - o := by omega
      have hok : o + 8 ≤ l.length := by omega
      have e : Nat.blt (l.length - o) 8 = false := by
        cases hh : Nat.blt (l.length - o) 8
        · rfl
        · have := Nat.le_of_ble_eq_true hh; omega
      have hW : wAt l o 8 = .slice (some (0, o)) 8 (.known 8) := by
        rcases forms ho with ⟨rfl, _, _, _⟩ | ⟨_, rfl, _, _⟩ | ⟨_, _, _, e2⟩
        · simp at hs
        · omega
        · exact e2 8
      have hS : ∀ {V : AV} {bb : Bool}, (stR (obR l) V bb).h.get 0 = some (obR l) := by intros; kernel_rfl
      refine run_of_tm Eok noSum_ok (Eq.mp (vcN8 (l.length - o) o (.ofNat (l.getD (o + 0) 0)) (.ofNat (l.getD (o + 1) 0)) (.ofNat (l.getD (o + 2) 0)) (.ofNat (l.getD (o + 3) 0)) (.ofNat (l.getD (o + 4) 0)) (.ofNat (l.getD (o + 5) 0)) (.ofNat (l.getD (o + 6) 0)) (.ofNat (l.getD (o + 7) 0)) (vAt l o) (vAt l (o + 8)) (obR l) (fun v => v = (.int .u64 (.ofNat (numV l o false 8)), stL l (toO l o false 8) (toB l o false 8)))) ⟨lenV ho, ifB_mk (fun h => ?_) fun h => ⟨(cutV ho hs (hS (V := vAt l o) (bb := false))).trans (by rw [hW]; rfl), restV ho hs (hS (V := vAt l o) (bb := false)), storeV (by omega), idxK (by kernel_rfl), ldK hok hS (0 : Nat) (by omega), idxK (by kernel_rfl), ldK hok hS (1 : Nat) (by omega), idxK (by kernel_rfl), ldK hok hS (2 : Nat) (by omega), idxK (by kernel_rfl), ldK hok hS (3 : Nat) (by omega), idxK (by kernel_rfl), ldK hok hS (4 : Nat) (by omega), idxK (by kernel_rfl), ldK hok hS (5 : Nat) (by omega), idxK (by kernel_rfl), ldK hok hS (6 : Nat) (by omega), idxK (by kernel_rfl), ldK hok hS (7 : Nat) (by omega), ?_⟩⟩)
      · rw [ltF_nn] at h
        exact absurd (of_decide_eq_true h) (by omega)
      · simp only [numV, toO, toB, e, cond_false]
        have hb : ∀ i, l.getD (o + i) 0 < 256 := fun i => getD_lt hB
        rw [st0 (hb 0)]
        rw [st1 (k := 1) (beN_lt hb 1 (by omega)) (by omega) (hb 1)]; rw [st1 (k := 2) (beN_lt hb 2 (by omega)) (by omega) (hb 2)]; rw [st1 (k := 3) (beN_lt hb 3 (by omega)) (by omega) (hb 3)]; rw [st1 (k := 4) (beN_lt hb 4 (by omega)) (by omega) (hb 4)]; rw [st1 (k := 5) (beN_lt hb 5 (by omega)) (by omega) (hb 5)]; rw [st1 (k := 6) (beN_lt hb 6 (by omega)) (by omega) (hb 6)]; rw [st1 (k := 7) (beN_lt hb 7 (by omega)) (by omega) (hb 7)]
        rfl
end
end Go.Proofs.Ytlnohbilfogheaa.rdr
end

section
open Go Go.Ax Go.Proofs.Ytlnohbilfogheaa
namespace Go.Proofs.Ytlnohbilfogheaa.rdr
set_option linter.unusedVariables false
section
variable {l : List Nat} {o : Nat} {S : ASt} {bad : Bool}
def vIn (r : Nat) (l : List Nat) (o : Nat) : AV := mapV (fun _ => r) (vAt l o)
theorem forms2 (r : Nat) (ho : o ≤ l.length) : (l = [] ∧ o = 0 ∧ vAt l o = nilV ∧ vIn r l o = nilV) ∨ (l ≠ [] ∧ o = l.length ∧ vAt l o = .slice0 ∧ vIn r l o = .slice0) ∨
    (l ≠ [] ∧ o < l.length ∧ vAt l o = .slice (some (0, o)) (l.length - o) (.rest 1) ∧ vIn r l o = .slice (some (r, o)) (l.length - o) (.rest 1)) := by
  rcases forms ho with ⟨h1, h2, e, _⟩ | ⟨h1, h2, e, _⟩ | ⟨h1, h2, e, _⟩
  · exact .inl ⟨h1, h2, e, by rw [vIn, e]; rfl⟩
  · exact .inr (.inl ⟨h1, h2, e, by rw [vIn, e]; rfl⟩)
  · exact .inr (.inr ⟨h1, h2, e, by rw [vIn, e]; rfl⟩)
theorem vIn_cell (r : Nat) (ho : o ≤ l.length) : (vIn r l o).isCell = true ∧ (vAt l o).isCell = true := by
  rcases forms2 r ho with ⟨_, _, e, e2⟩ | ⟨_, _, e, e2⟩ | ⟨_, _, e, e2⟩ <;> rw [e, e2] <;> exact ⟨rfl, rfl⟩
theorem vIn_eq {g : Nat → Nat} {r : Nat} (hg : l ≠ [] → g 0 = r) (ho : o ≤ l.length) : mapV g (vAt l o) = vIn r l o := by
  rcases forms2 r ho with ⟨_, _, e, e2⟩ | ⟨_, _, e, e2⟩ | ⟨h0, _, e, e2⟩
  · rw [e, e2]; rfl
  · rw [e, e2]; rfl
  · rw [e, e2, ← hg h0]; rfl
theorem vIn_back {ι κ : Ren} {r : Nat} {x : Value} (ho : o ≤ l.length) (hκ : l ≠ [] → κ 0 = ι r) (h : VR ι (vIn r l o) x) : VR κ (vAt l o) x := by
  rcases forms2 r ho with ⟨_, _, e, e2⟩ | ⟨_, _, e, e2⟩ | ⟨h0, _, e, e2⟩
  · rw [e2] at h; rw [e]; exact h.noRef (by simp [nilV, refsV])
  · rw [e2] at h; rw [e]; exact h.noRef (by simp [refsV])
  · rw [e2] at h; rw [e]
    cases h with
    | slice _ _ _ c' L _ hL hc hl => exact .slice 0 o _ c' L _ ((hκ h0).trans hL) hc hl
theorem rd_back {ι κ : Ren} {r : Nat} {L : Ax.Loc} {ob : Obj} (ho : o ≤ l.length) (hκ : l ≠ [] → κ 0 = ι r) (h : OR ι L (rd (vIn r l o) bad) ob) : OR κ L (rd (vAt l o) bad) ob := by
  obtain ⟨c, e, lo, hi', q1, q2, q3, q4, q5, q6⟩ := h
  refine ⟨c, e, lo, hi', q1, q2, q3, fun v hv => ?_, fun k y y' hy hy' => ?_, q6⟩
  · simp only [List.mem_cons, List.not_mem_nil, or_false] at hv
    rcases hv with rfl | rfl | rfl
    · exact (vIn_cell r ho).2
    · rfl
    · rfl
  · match k, hy with
    | 0, hy => simp at hy; subst hy; exact vIn_back ho hκ (q5 0 _ y' rfl hy')
    | 1, hy => simp at hy; subst hy; exact (q5 1 _ y' rfl hy').noRef (by simp [refsV])
    | 2, hy => simp at hy; subst hy; exact (q5 2 _ y' rfl hy').noRef (by simp [refsV])
    | k + 3, hy => simp at hy
theorem obR_row (h0 : l ≠ []) : obR l = .cells (l.map cellU) true := by cases l with | nil => exact absurd rfl h0 | cons x l => rfl
theorem atRow {f i r : Nat} {ex : List AV} {v v' : AV} {o' : Nat} {bad' : Bool} (h0 : l ≠ []) (ho : o ≤ l.length) (ho' : o' ≤ l.length) (hex : ∀ c, c ∈ ex → refsV 0 c)
    (h : AtS Try.prog f (.ptr (some (1, 0)) :: ex) (stL l o bad) (v, stL l o' bad')) (hvm : ∀ g : Nat → Nat, g 0 = r → mapV g v = v')
    (hi : S.h.get i = some (rd (vIn r l o) bad)) (hr : S.h.get r = some (.cells (l.map cellU) true)) (hne : i ≠ r) (his : i < S.next) (hrs : r < S.next) :
    Call1 Try.prog f (.ptr (some (i, 0)) :: ex) S (v', outS (gS [some (r, 0, true), some (i, 0, true)] S.next) [(0, .cells (l.map cellU) true), (1, rd (vIn r l o') bad')] S (S.next + 2)) := by
  have hg : ∀ j, (stL l o bad).h.get j = if j = 1 then some (rd (vAt l o) bad) else if j = 0 then some (.cells (l.map cellU) true) else none := fun j => by
    show (((T.e : T AO).set D 0 (obR l)).set D 1 (rd (vAt l o) bad)).get j = _
    rw [T.get_set, T.get_set, T.get_e, obR_row h0]
  have hg2 : ∀ {j x}, (stL l o bad).h.get j = some x → (j = 0 ∧ x = .cells (l.map cellU) true) ∨ (j = 1 ∧ x = rd (vAt l o) bad) := fun {j x} hj => by
    rw [hg] at hj
    by_cases e1 : j = 1
    · simp [e1] at hj; exact .inr ⟨e1, hj.symm⟩
    · by_cases e0 : j = 0
      · simp [e0] at hj; exact .inl ⟨e0, hj.symm⟩
      · simp [e1, e0] at hj
  have ren0 : ∀ ι : Ren, renS [some (r, 0, true), some (i, 0, true)] ι 0 = ι r := fun ι => by
    show (match ι r with | some L => some (L.sh 0) | none => none) = ι r
    cases ι r <;> rfl
  refine Call1.frame (S1 := stL l o bad) (args1 := .ptr (some (1, 0)) :: ex) (Q1 := fun q => q = (v, stL l o' bad')) (fun B w0 ι w args' _ hsr hv => h B w0 ι w args' hsr hv) (src := [some (r, 0, true), some (i, 0, true)])
    ⟨rfl, fun j i' o w hj => ?_, fun j x hj => ?_, fun j x hj hd => ?_, fun j j' x i1 o1 w1 o2 w2 hj ho s1 s2 => ?_⟩ (fun ι args' hv => ?_) (fun q hq => ?_)
  · match j, hj with
    | 0, hj => simp at hj; obtain ⟨rfl, rfl, rfl⟩ := hj; exact ⟨fun _ => rfl, _, hr, by simp⟩
    | 1, hj => simp at hj; obtain ⟨rfl, rfl, rfl⟩ := hj; exact ⟨fun _ => rfl, _, hi, by simp [rd]⟩
    | j + 2, hj => simp at hj
  · rcases hg2 hj with ⟨rfl, _⟩ | ⟨rfl, _⟩ <;> simp
  · rcases hg2 hj with ⟨rfl, rfl⟩ | ⟨rfl, rfl⟩
    · exact ⟨r, 0, true, _, rfl, hr, by simp, fun _ => ⟨rfl, rfl⟩, fun ι L ob ⟨c, e, lo, hi', q1, q2, q3, q4, q5, q6⟩ => ⟨c, e, lo, hi', q1, q2, q3, q4, fun k y y' hy hy' => (q5 k y y' hy hy').noRef (refU l y (List.mem_of_getElem? hy)), q6⟩⟩
    · exact ⟨i, 0, true, _, rfl, hi, by simp [rd], fun _ => ⟨rfl, rfl⟩, fun ι L ob hx => rd_back ho (fun _ => ren0 ι) hx⟩
  · rcases hg2 hj with ⟨rfl, rfl⟩ | ⟨rfl, rfl⟩
    · simp at s1
      match j', s2 with
      | 0, s2 => rfl
      | 1, s2 => simp at s2; exact absurd (s2.1.trans s1.1.symm) hne
      | j' + 2, s2 => simp at s2
    · simp at s1
      match j', s2 with
      | 0, s2 => simp at s2; exact absurd (s1.1.trans s2.1.symm) hne
      | 1, s2 => rfl
      | j' + 2, s2 => simp at s2
  · refine ⟨hv.size, fun k y y' hy hy' => ?_⟩
    match k, hy with
    | 0, hy =>
      simp at hy; subst hy
      cases hv.at_ 0 _ y' rfl hy' with
      | ptr _ _ L hL => exact .ptr 1 0 L (by simp [renS, hL, Loc.sh])
    | k + 1, hy =>
      have hy2 : ex[k]? = some y := by simpa using hy
      exact (hv.at_ (k + 1) y y' (by simpa using hy) hy').noRef (hex y (List.mem_of_getElem? hy2))
  · subst hq
    have g0 : gS [some (r, 0, true), some (i, 0, true)] S.next 0 = r := rfl
    have g1 : gS [some (r, 0, true), some (i, 0, true)] S.next 1 = i := rfl
    refine ⟨BackV.eq (hvm _ g0), ⟨Nat.le_refl _, by simp⟩, fun p hp => ?_, fun j x hj ho => ?_⟩
    · simp only [List.mem_cons, List.not_mem_nil, or_false] at hp
      rcases hp with rfl | rfl
      · refine ⟨by rw [g0]; omega, fun _ => ⟨_, by rw [hg]; simp; rfl, rfl⟩, .inr ⟨rfl, _, (?_ : (stL l o' bad').h.get 0 = some (.cells (l.map cellU) true)), BackO.row (refU l)⟩⟩
        rw [← obR_row h0]; exact stL0
      · refine ⟨by rw [g1]; omega, fun _ => ⟨_, by rw [hg]; simp; rfl, rfl⟩, .inr ⟨rfl, _, (by kernel_rfl : (stL l o' bad').h.get 1 = some (rd (vAt l o') bad')), BackO.cells ?_⟩⟩
        simp only [mapVs, vIn_eq (fun _ => g0) ho']
        rfl
    · rcases hg2 hj with ⟨rfl, _⟩ | ⟨rfl, _⟩
      · exact ⟨_, List.mem_cons_self .., rfl⟩
      · exact ⟨_, List.mem_cons_of_mem _ (List.mem_cons_self ..), rfl⟩
end
end Go.Proofs.Ytlnohbilfogheaa.rdr
end

section
open Go Go.Ax Go.Proofs.Ytlnohbilfogheaa
namespace Go.Proofs.Ytlnohbilfogheaa.rdr
set_option linter.unusedVariables false
noncomputable def fnsE : List (Nat × Func) := [(93, Try.f93), (78, Try.f78), (62, Try.f62), (61, Try.f61), (63, Try.f63), (64, Try.f64)]
noncomputable def E2 : Env := envEx Try.prog [0, 3, 4, 5, 25, 28, 33, 106, 140, 141] fnsE []
noncomputable def sm1 (q : CallT) : CallT := onlyC [93, 62] q
noncomputable def t61 (q : CallT) (s : Nat) (V V' W : AV) (R : AO) (bad bad' : Bool) : Tr (AV × ASt) := (TM E2 (sm1 q) [(61, ⟨[7], [], [], []⟩)] fl0 60).call 61 [.ptr (some (1, 0)), nI s] (stR R V bad)
noncomputable def t63 (q : CallT) (x : Nat) (V V1 V2 W : AV) (R : AO) (bad bad1 bad2 : Bool) : Tr (AV × ASt) := (TM E2 (sm1 q) [(63, ⟨[5, 7], [], [], []⟩)] fl0 60).call 63 [.ptr (some (1, 0))] (stR R V bad)
noncomputable def t64b (V : AV) (R : AO) : Tr (AV × ASt) := (TM E2 noSum [(64, fl0)] fl0 60).call 64 [.ptr (some (1, 0))] (stR R V true)
noncomputable def t64 (n : Nat) (V : AV) (R : AO) : Tr (AV × ASt) := (TM E2 noSum [(64, ⟨[23], [], [24], []⟩)] fl0 60).call 64 [.ptr (some (1, 0))] (stR R V false)
noncomputable def vc61_s0 (V : AV) (R : AO) (bad : Bool) : ASt := mkSt [(0, R), (1, .cells [V, .bool bad, .bool true] true)] 2
noncomputable def vc61_s1 (V' : AV) (R : AO) (bad' : Bool) : ASt := mkSt [(0, R), (1, .cells [V', .bool bad', .bool true] true)] 2
theorem vc61 (q : CallT) (s : Nat) (V V' W : AV) (R : AO) (bad bad' : Bool) (Q : AV × ASt → Prop) :
  ((M E2 (drawA E2) (sm1 q) 56).call 93 [.ptr (some (1, 0)), .int .i64 (.ofNat s)] (vc61_s0 V R bad) = some (W, vc61_s1 V' R bad') ∧ Q (W, vc61_s1 V' R bad')) =
  (t61 q s V V' W R bad bad').allY (fun r => Q (r.1, canS [0, 1] r.2)) (.v (W, vc61_s1 V' R bad') .nil) := by kernel_rfl
noncomputable def vc63_s0 (V : AV) (R : AO) (bad : Bool) : ASt := mkSt [(0, R), (1, .cells [V, .bool bad, .bool true] true)] 2
noncomputable def vc63_s1 (V1 : AV) (R : AO) (bad1 : Bool) : ASt := mkSt [(0, R), (1, .cells [V1, .bool bad1, .bool true] true)] 2
noncomputable def vc63_s2 (V2 : AV) (R : AO) (bad2 : Bool) : ASt := mkSt [(0, R), (1, .cells [V2, .bool bad2, .bool true] true)] 2
theorem vc63 (q : CallT) (x : Nat) (V V1 V2 W : AV) (R : AO) (bad bad1 bad2 : Bool) (Q : AV × ASt → Prop) :
  ((M E2 (drawA E2) (sm1 q) 56).call 62 [.ptr (some (1, 0)), .int .i64 (.ofNat 2)] (vc63_s0 V R bad) = some (.int .u64 (.ofNat x), vc63_s1 V1 R bad1) ∧ (M E2 (drawA E2) (sm1 q) 56).call 93 [.ptr (some (1, 0)), .int .i64 (wrapF .i64 (.ofNat x))] (vc63_s1 V1 R bad1) = some (W, vc63_s2 V2 R bad2) ∧ Q (W, vc63_s2 V2 R bad2)) =
  (t63 q x V V1 V2 W R bad bad1 bad2).allY (fun r => Q (r.1, canS [0, 1] r.2)) (.v (.int .u64 (.ofNat x), vc63_s1 V1 R bad1) (.v (W, vc63_s2 V2 R bad2) .nil)) := by kernel_rfl
noncomputable def vc64b_s0 (V : AV) (R : AO) : ASt := mkSt [(0, R), (1, .cells [V, .bool true, .bool true] true)] 2
theorem vc64b (V : AV) (R : AO) (Q : AV × ASt → Prop) :
  (Q (.int .i64 (.ofNat 4), vc64b_s0 V R)) =
  (t64b V R).allY (fun r => Q (r.1, canS [0, 1] r.2)) (.nil) := by kernel_rfl
noncomputable def vc64_s0 (V : AV) (R : AO) : ASt := mkSt [(0, R), (1, .cells [V, .bool false, .bool true] true)] 2
theorem vc64 (n : Nat) (V : AV) (R : AO) (Q : AV × ASt → Prop) :
  (aBuiltinM E2 .len [25] [V] (vc64_s0 V R) = some (.int .i64 (.ofNat n), vc64_s0 V R) ∧ ifB (ltF (.ofNat 0) (.ofNat n)) (Q (.int .i64 (.ofNat 4), vc64_s0 V R)) (Q (.int .i64 (.ofNat 0), vc64_s0 V R))) =
  (t64 n V R).allY (fun r => Q (r.1, canS [0, 1] r.2)) (.v (.int .i64 (.ofNat n), vc64_s0 V R) (.b .nil .nil)) := by kernel_rfl
theorem E2ok : Env.Ok Try.prog E2 := envEx_ok (xs := []) ⟨⟨Try.func93, Try.call93⟩, ⟨Try.func78, Try.call78⟩, ⟨Try.func62, Try.call62⟩, ⟨Try.func61, Try.call61⟩, ⟨Try.func63, Try.call63⟩, ⟨Try.func64, Try.call64⟩, trivial⟩ trivial (by kernel_rfl)
theorem AtS.call1 {P : Program} {f : Nat} {args : List AV} {S : ASt} {r : AV × ASt} (h : AtS P f args S r) : Call1 P f args S r := fun B w0 ι w args' hsr hv => by
  obtain ⟨h1, h2⟩ := h B w0 ι w args' hsr hv
  refine ⟨h1, h2.mono ?_⟩
  rintro e w' ⟨_, rfl, hp⟩
  exact hp
section
variable {l : List Nat} {o s : Nat} {S : ASt} {bad : Bool}
theorem toO_le (ho : o ≤ l.length) : toO l o bad s ≤ l.length := by
  unfold toO
  cases bad
  · simp only [cond_false]
    cases h : Nat.blt (l.length - o) s
    · simp only [cond_false]
      have : ¬ l.length - o < s := fun g => by rw [blt_t g] at h; cases h
      omega
    · simp only [cond_true]; exact ho
  · exact ho
theorem bytesRun (ho : o ≤ l.length) : AtS Try.prog 61 [.ptr (some (1, 0)), nI s] (stL l o bad) (cutW l o bad s, stL l (toO l o bad s) (toB l o bad s)) := by
  have c : Call1 Try.prog 93 [.ptr (some (1, 0)), nI s] (stL l o bad) (cutW l o bad s, stL l (toO l o bad s) (toB l o bad s)) := (cutRun ho).call1
  refine run_of_tm E2ok (onlyC_ok (fs := [93, 62]) (tabC_ok (tab := [(93, [.ptr (some (1, 0)), nI s], stL l o bad, (cutW l o bad s, stL l (toO l o bad s) (toB l o bad s)))]) fun e he => by simp at he; subst he; exact c))
    (Eq.mp (vc61 _ s (vAt l o) (vAt l (toO l o bad s)) (cutW l o bad s) (obR l) bad (toB l o bad s) (fun v => v = (cutW l o bad s, stL l (toO l o bad s) (toB l o bad s)))) ⟨call_at (onlyC_at rfl (tabC_hd ..)), rfl⟩)
def blobN (l : List Nat) (o : Nat) (bad : Bool) : Nat := numV l o bad 2
theorem blobRun (ho : o ≤ l.length) (hB : ∀ x, x ∈ l → x < 256) : AtS Try.prog 63 [.ptr (some (1, 0))] (stL l o bad)
    (cutW l (toO l o bad 2) (toB l o bad 2) (blobN l o bad), stL l (toO l (toO l o bad 2) (toB l o bad 2) (blobN l o bad)) (toB l (toO l o bad 2) (toB l o bad 2) (blobN l o bad))) := by
  obtain ⟨o1, h1⟩ : ∃ x, x = toO l o bad 2 := ⟨_, rfl⟩
  obtain ⟨b1, h2⟩ : ∃ x, x = toB l o bad 2 := ⟨_, rfl⟩
  obtain ⟨n, h3⟩ : ∃ x, x = blobN l o bad := ⟨_, rfl⟩
  have ho1 : o1 ≤ l.length := h1 ▸ toO_le ho
  have hn : n < 65536 := by
    rw [h3]; unfold blobN numV
    cases toB l o bad 2
    · exact beN_lt (fun i => getD_lt hB) 2 (by omega)
    · exact Nat.zero_lt_succ _
  have c1 : Call1 Try.prog 62 [.ptr (some (1, 0)), nI 2] (stL l o bad) (.int .u64 (.ofNat n), stL l o1 b1) := by rw [h1, h2, h3]; exact (num2 ho hB).call1
  have c2 : Call1 Try.prog 93 [.ptr (some (1, 0)), nI n] (stL l o1 b1) (cutW l o1 b1 n, stL l (toO l o1 b1 n) (toB l o1 b1 n)) := (cutRun ho1).call1
  rw [← h1, ← h2, ← h3]
  refine run_of_tm E2ok (onlyC_ok (fs := [93, 62]) (tabC_ok (tab := [(62, [.ptr (some (1, 0)), nI 2], stL l o bad, (.int .u64 (.ofNat n), stL l o1 b1)), (93, [.ptr (some (1, 0)), nI n], stL l o1 b1, (cutW l o1 b1 n, stL l (toO l o1 b1 n) (toB l o1 b1 n)))]) fun e he => by
      simp only [List.mem_cons, List.not_mem_nil, or_false] at he
      rcases he with rfl | rfl
      · exact c1
      · exact c2))
    (Eq.mp (vc63 _ n (vAt l o) (vAt l o1) (vAt l (toO l o1 b1 n)) (cutW l o1 b1 n) (obR l) bad b1 (toB l o1 b1 n) (fun v => v = (cutW l o1 b1 n, stL l (toO l o1 b1 n) (toB l o1 b1 n)))) ⟨call_at (onlyC_at rfl (tabC_hd ..)), ?_, rfl⟩)
  have hw : wrapF .i64 (.ofNat n) = .ofNat n := wrap_nat (by omega)
  rw [hw]
  exact call_at (onlyC_at rfl ((tabC_tlf rfl).trans (tabC_hd ..)))
def endN (l : List Nat) (o : Nat) (bad : Bool) : Nat := bif bad || Nat.blt 0 (l.length - o) then 4 else 0
theorem endRun (ho : o ≤ l.length) : AtS Try.prog 64 [.ptr (some (1, 0))] (stL l o bad) (nI (endN l o bad), stL l o bad) := by
  cases bad with
  | true => exact run_of_tm E2ok noSum_ok (Eq.mp (vc64b (vAt l o) (obR l) (fun v => v = (nI (endN l o true), stL l o true))) rfl)
  | false =>
    have e : aBuiltinM E2 .len [25] [vAt l o] (stL l o false) = some (nI (l.length - o), stL l o false) := by
      rcases forms ho with ⟨rfl, rfl, e, _⟩ | ⟨_, rfl, e, _⟩ | ⟨_, _, e, _⟩
      · rw [e]; show _ = _; kernel_rfl
      · rw [e, Nat.sub_self]; show _ = _; kernel_rfl
      · rw [e]; show _ = _; kernel_rfl
    refine run_of_tm E2ok noSum_ok (Eq.mp (vc64 (l.length - o) (vAt l o) (obR l) (fun v => v = (nI (endN l o false), stL l o false))) ⟨e, ifB_mk (fun h => ?_) fun h => ?_⟩)
    · rw [ltF_nn] at h
      have : endN l o false = 4 := by unfold endN; rw [blt_t (of_decide_eq_true h)]; rfl
      rw [this]; rfl
    · rw [ltF_nn] at h
      have h' := of_decide_eq_false h
      have : endN l o false = 0 := by
        unfold endN
        cases hh : Nat.blt 0 (l.length - o)
        · rfl
        · have := Nat.le_of_ble_eq_true hh; omega
      rw [this]; rfl
end
end Go.Proofs.Ytlnohbilfogheaa.rdr
end

section
open Go Go.Ax Go.Proofs.Ytlnohbilfogheaa
namespace Go.Proofs.Ytlnohbilfogheaa.rdr
set_option linter.unusedVariables false
noncomputable def fnsO : List (Nat × Func) := [(25, Try.f25), (60, Try.f60), (47, Try.f47), (61, Try.f61), (62, Try.f62), (63, Try.f63), (64, Try.f64), (22, Try.f22), (65, Try.f65)]
noncomputable def E3 : Env := envEx Try.prog [0, 3, 4, 5, 9, 25, 28, 33, 34, 61, 63, 66, 106, 140] fnsO []
noncomputable def sm2 (q : CallT) : CallT := onlyC [61, 62, 63, 64, 22, 65] q
noncomputable def z6 : AO := .cells [.int .i64 0, .int .u64 0, .int .u64 0, .int .u64 0, .int .u64 0, .slice none 0 (.known 0)] true
noncomputable def mO (R R2 : AO) (V : AV) (b : Bool) (nx : Nat) : ASt := mkSt [(0, R), (1, z6), (2, .cells [] true), (3, R2), (4, rd V b)] nx
noncomputable def pO (k x1 x2 x3 x4 : Int) (P : AV) : AO := .cells [.int .i64 k, .int .u64 x1, .int .u64 x2, .int .u64 x3, .int .u64 x4, P] true
noncomputable def flsO : List (Nat × Fl) := [(25, ⟨[12, 13, 15, 18, 20, 24, 28, 31, 35, 37, 39, 43, 45, 48, 54, 62], [10], [45, 49, 58, 62], []⟩), (60, ⟨[], [4], [], []⟩), (47, ⟨[7], [], [], []⟩)]
noncomputable def tO (q : CallT) (n e ee : Nat) (R R2 R43 : AO) (mk eq : Bool) (ms : List Nat) (W2 W4 A : AV) (x0 x1 x2 : Nat) (V0 V1 V2 V3 V4 V5 : AV) (b1 b2 b3 b4 b5 : Bool) : Tr (AV × ASt) := (TM E3 (sm2 q) flsO fl0 60).call 25 [.slice (some (0, 0)) n (.atl n)] (mkSt [(0, R)] 1)
noncomputable def tA (q : CallT) (n e ee : Nat) (R R2 R45 : AO) (mk eq : Bool) (ms : List Nat) (W2 W4 A : AV) (x0 x1 x2 x3 : Nat) (V0 V1 V2 V3 V4 V5 V6 : AV) (b1 b2 b3 b4 b5 b6 : Bool) : Tr (AV × ASt) := (TM E3 (sm2 q) flsO fl0 60).call 25 [.slice (some (0, 0)) n (.atl n)] (mkSt [(0, R)] 1)
noncomputable def flsD : List (Nat × Fl) := [(25, ⟨[12, 13, 15, 18, 20, 24, 28, 31, 35, 37, 39, 43, 45, 48, 54, 62, 4095], [10], [45, 49, 58, 62], []⟩), (60, ⟨[], [4], [], []⟩), (47, ⟨[7], [], [], []⟩)]
noncomputable def tD (q : CallT) (n e ee : Nat) (R R2 R49 : AO) (mk eq : Bool) (ms : List Nat) (W2 W4 A W : AV) (x0 x1 x2 x3 x4 : Nat) (V0 V1 V2 V3 V4 V5 V6 V7 V8 : AV) (b1 b2 b3 b4 b5 b6 b7 b8 : Bool) : Tr (AV × ASt) := (TM E3 (sm2 q) flsD fl0 60).call 25 [.slice (some (0, 0)) n (.atl n)] (mkSt [(0, R)] 1)
noncomputable def mD (R R2 : AO) (V : AV) (b : Bool) (c p : AO) (nx : Nat) : ASt := mkSt [(0, R), (1, c), (2, .cells [] true), (3, R2), (4, rd V b), (13, p)] nx
noncomputable def p6 (x0 x1 x2 x3 x4 : Nat) : AO := pO (wrapF .i64 (.ofNat x0)) (.ofNat x1) (.ofNat x2) (.ofNat x3) (.ofNat x4) (.slice none 0 (.known 0))
noncomputable def vcO_s0 (R : AO) : ASt := mkSt [(0, R), (1, .cells z6c true), (2, .cells [] true)] 3
noncomputable def vcO_s1 (R R2 : AO) : ASt := mkSt [(0, R), (1, .cells z6c true), (2, .cells [] true), (3, R2)] 4
noncomputable def vcO_s2 (n : Nat) (R R2 : AO) : ASt := mkSt [(0, R), (1, .cells z6c true), (2, .cells [] true), (3, R2), (4, .cells [.slice (some (3, 0)) n (.rest 1), .bool false, .bool true] true)] 5
noncomputable def vcO_s3 (R R2 : AO) (V1 : AV) (b1 : Bool) : ASt := mkSt [(0, R), (1, .cells z6c true), (2, .cells [] true), (3, R2), (4, .cells [V1, .bool b1, .bool true] true)] 7
noncomputable def vcO_s4 (R R2 : AO) (V2 : AV) (b2 : Bool) : ASt := mkSt [(0, R), (1, .cells z6c true), (2, .cells [] true), (3, R2), (4, .cells [V2, .bool b2, .bool true] true)] 9
noncomputable def vcO_s5 (R R2 : AO) (V3 : AV) (b3 : Bool) : ASt := mkSt [(0, R), (1, .cells z6c true), (2, .cells [] true), (3, R2), (4, .cells [V3, .bool b3, .bool true] true)] 11
noncomputable def vcO_s6 (R R2 : AO) (V4 : AV) (b4 : Bool) : ASt := mkSt [(0, R), (1, .cells z6c true), (2, .cells [] true), (3, R2), (4, .cells [V4, .bool b4, .bool true] true)] 13
noncomputable def vcO_s7 (R R2 : AO) (x0 x1 x2 : Nat) (V4 : AV) (b4 : Bool) : ASt := mkSt [(0, R), (1, .cells z6c true), (2, .cells [] true), (3, R2), (4, .cells [V4, .bool b4, .bool true] true), (13, .cells [.int .i64 (wrapF .i64 (.ofNat x0)), .int .u64 (.ofNat x1), .int .u64 (.ofNat x2), .int .u64 (.ofNat 0), .int .u64 (.ofNat 0), .slice none 0 (.known 0)] true)] 14
noncomputable def vcO_s8 (R R2 : AO) (x0 x1 x2 : Nat) (V5 : AV) (b5 : Bool) : ASt := mkSt [(0, R), (1, .cells z6c true), (2, .cells [] true), (3, R2), (4, .cells [V5, .bool b5, .bool true] true), (13, .cells [.int .i64 (wrapF .i64 (.ofNat x0)), .int .u64 (.ofNat x1), .int .u64 (.ofNat x2), .int .u64 (.ofNat 0), .int .u64 (.ofNat 0), .slice none 0 (.known 0)] true)] 16
noncomputable def vcO_s9 (R R2 : AO) : ASt := mkSt [(0, R), (3, R2)] 16
noncomputable def vcO_s10 (R R2 : AO) (x0 x1 x2 : Nat) (V5 : AV) (b5 : Bool) : ASt := mkSt [(0, R), (1, .cells z6c true), (2, .cells [] true), (3, R2), (4, .cells [V5, .bool b5, .bool true] true), (13, .cells [.int .i64 (wrapF .i64 (.ofNat x0)), .int .u64 (.ofNat x1), .int .u64 (.ofNat x2), .int .u64 (.ofNat 0), .int .u64 (.ofNat 0), .slice none 0 (.known 0)] true)] 18
noncomputable def vcO_s11 (R R2 : AO) : ASt := mkSt [(0, R), (3, R2)] 18
noncomputable def vcO_s12 (R R2 R43 : AO) (x0 x1 x2 : Nat) (V5 : AV) (b5 : Bool) : ASt := mkSt [(0, R), (1, .cells z6c true), (2, .cells [] true), (3, R2), (4, .cells [V5, .bool b5, .bool true] true), (13, .cells [.int .i64 (wrapF .i64 (.ofNat x0)), .int .u64 (.ofNat x1), .int .u64 (.ofNat x2), .int .u64 (.ofNat 0), .int .u64 (.ofNat 0), .slice none 0 (.known 0)] true), (45, R43)] 63
noncomputable def vcO_s13 (R R2 : AO) : ASt := mkSt [(0, R), (3, R2)] 63
theorem vcO (q : CallT) (n e ee : Nat) (R R2 R43 : AO) (mk eq : Bool) (ms : List Nat) (W2 W4 A : AV) (x0 x1 x2 : Nat) (V0 V1 V2 V3 V4 V5 : AV) (b1 b2 b3 b4 b5 : Bool) (Q : AV × ASt → Prop) :
  (aBuiltinM E3 .append [25, 25] [.slice (some (2, 0)) 0 (.known 0), .slice (some (0, 0)) n (.atl n)] (vcO_s0 R) = some (.slice (some (3, 0)) n (.rest 1), vcO_s1 R R2) ∧ (M E3 (drawA E3) (sm2 q) 55).call 61 [.ptr (some (4, 0)), .int .i64 (.ofNat 2)] (vcO_s2 n R R2) = some (W2, vcO_s3 R R2 V1 b1) ∧ aConvert E3 25 9 W2 (vcO_s3 R R2 V1 b1) = some (.str ms, vcO_s3 R R2 V1 b1) ∧ (M E3 (drawA E3) (sm2 q) 54).call 62 [.ptr (some (4, 0)), .int .i64 (.ofNat 1)] (vcO_s3 R R2 V1 b1) = some (.int .u64 (.ofNat x0), vcO_s4 R R2 V2 b2) ∧ (M E3 (drawA E3) (sm2 q) 54).call 62 [.ptr (some (4, 0)), .int .i64 (.ofNat 8)] (vcO_s4 R R2 V2 b2) = some (.int .u64 (.ofNat x1), vcO_s5 R R2 V3 b3) ∧ (M E3 (drawA E3) (sm2 q) 54).call 62 [.ptr (some (4, 0)), .int .i64 (.ofNat 8)] (vcO_s5 R R2 V3 b3) = some (.int .u64 (.ofNat x2), vcO_s6 R R2 V4 b4) ∧ still (vcO_s7 R R2 x0 x1 x2 V4 b4) (aBin E3 .eql 61 (.tmp 23) (.const (.int .i64 2)) (.int .i64 (wrapF .i64 (.ofNat x0))) (.int .i64 (.ofNat 2))) = some (.bool false, vcO_s7 R R2 x0 x1 x2 V4 b4) ∧ still (vcO_s7 R R2 x0 x1 x2 V4 b4) (aBin E3 .eql 61 (.tmp 27) (.const (.int .i64 3)) (.int .i64 (wrapF .i64 (.ofNat x0))) (.int .i64 (.ofNat 3))) = some (.bool false, vcO_s7 R R2 x0 x1 x2 V4 b4) ∧ still (vcO_s7 R R2 x0 x1 x2 V4 b4) (aBin E3 .eql 61 (.tmp 34) (.const (.int .i64 2)) (.int .i64 (wrapF .i64 (.ofNat x0))) (.int .i64 (.ofNat 2))) = some (.bool false, vcO_s7 R R2 x0 x1 x2 V4 b4) ∧ (M E3 (drawA E3) (sm2 q) 51).call 61 [.ptr (some (4, 0)), .int .i64 (.ofNat 4)] (vcO_s7 R R2 x0 x1 x2 V4 b4) = some (W4, vcO_s8 R R2 x0 x1 x2 V5 b5) ∧ still (vcO_s8 R R2 x0 x1 x2 V5 b5) (aBin E3 .neq 9 (.tmp 44) (.const (.string { data := #[71, 80] })) (.str ms) (.str [71, 80])) = some (.bool mk, vcO_s8 R R2 x0 x1 x2 V5 b5) ∧ ifB mk (Q (.tuple [.agg z6c, .int .i64 (.ofNat 4)], vcO_s9 R R2)) ((M E3 (drawA E3) (sm2 q) 49).call 64 [.ptr (some (4, 0))] (vcO_s8 R R2 x0 x1 x2 V5 b5) = some (.int .i64 (.ofNat e), vcO_s10 R R2 x0 x1 x2 V5 b5) ∧ ifB (!eqF (.ofNat e) (.ofNat 0)) (Q (.tuple [.agg z6c, .int .i64 (.ofNat 4)], vcO_s11 R R2)) ((M E3 (drawA E3) (sm2 q) 48).call 22 [.agg [.int .i64 (wrapF .i64 (.ofNat x0)), .int .u64 (.ofNat x1), .int .u64 (.ofNat x2), .int .u64 (.ofNat 0), .int .u64 (.ofNat 0), .slice none 0 (.known 0)]] (vcO_s10 R R2 x0 x1 x2 V5 b5) = some (.tuple [A, .int .i64 (.ofNat ee)], vcO_s12 R R2 R43 x0 x1 x2 V5 b5) ∧ ifB (!eqF (.ofNat ee) (.ofNat 0)) (Q (.tuple [.agg z6c, .int .i64 (.ofNat 4)], vcO_s13 R R2)) ((M E3 (drawA E3) (sm2 q) 47).call 65 [A, .slice (some (0, 0)) n (.atl n)] (vcO_s12 R R2 R43 x0 x1 x2 V5 b5) = some (.bool eq, vcO_s12 R R2 R43 x0 x1 x2 V5 b5) ∧ ifB eq (Q (.tuple [.agg [.int .i64 (wrapF .i64 (.ofNat x0)), .int .u64 (.ofNat x1), .int .u64 (.ofNat x2), .int .u64 (.ofNat 0), .int .u64 (.ofNat 0), .slice none 0 (.known 0)], .int .i64 (.ofNat 0)], vcO_s13 R R2)) (Q (.tuple [.agg z6c, .int .i64 (.ofNat 4)], vcO_s13 R R2)))))) =
  (tO q n e ee R R2 R43 mk eq ms W2 W4 A x0 x1 x2 V0 V1 V2 V3 V4 V5 b1 b2 b3 b4 b5).allY (fun r => Q (r.1, canS [0, 3] r.2)) (.v (.slice (some (3, 0)) n (.rest 1), vcO_s1 R R2) (.v (W2, vcO_s3 R R2 V1 b1) (.v (.str ms, vcO_s3 R R2 V1 b1) (.v (.int .u64 (.ofNat x0), vcO_s4 R R2 V2 b2) (.v (.int .u64 (.ofNat x1), vcO_s5 R R2 V3 b3) (.v (.int .u64 (.ofNat x2), vcO_s6 R R2 V4 b4) (.v (.bool false, vcO_s7 R R2 x0 x1 x2 V4 b4) (.v (.bool false, vcO_s7 R R2 x0 x1 x2 V4 b4) (.v (.bool false, vcO_s7 R R2 x0 x1 x2 V4 b4) (.v (W4, vcO_s8 R R2 x0 x1 x2 V5 b5) (.v (.bool mk, vcO_s8 R R2 x0 x1 x2 V5 b5) (.b .nil (.v (.int .i64 (.ofNat e), vcO_s10 R R2 x0 x1 x2 V5 b5) (.b .nil (.v (.tuple [A, .int .i64 (.ofNat ee)], vcO_s12 R R2 R43 x0 x1 x2 V5 b5) (.b .nil (.v (.bool eq, vcO_s12 R R2 R43 x0 x1 x2 V5 b5) (.b .nil .nil)))))))))))))))))) := by kernel_rfl
noncomputable def vcA_s0 (R : AO) : ASt := mkSt [(0, R), (1, .cells z6c true), (2, .cells [] true)] 3
noncomputable def vcA_s1 (R R2 : AO) : ASt := mkSt [(0, R), (1, .cells z6c true), (2, .cells [] true), (3, R2)] 4
noncomputable def vcA_s2 (n : Nat) (R R2 : AO) : ASt := mkSt [(0, R), (1, .cells z6c true), (2, .cells [] true), (3, R2), (4, .cells [.slice (some (3, 0)) n (.rest 1), .bool false, .bool true] true)] 5
noncomputable def vcA_s3 (R R2 : AO) (V1 : AV) (b1 : Bool) : ASt := mkSt [(0, R), (1, .cells z6c true), (2, .cells [] true), (3, R2), (4, .cells [V1, .bool b1, .bool true] true)] 7
noncomputable def vcA_s4 (R R2 : AO) (V2 : AV) (b2 : Bool) : ASt := mkSt [(0, R), (1, .cells z6c true), (2, .cells [] true), (3, R2), (4, .cells [V2, .bool b2, .bool true] true)] 9
noncomputable def vcA_s5 (R R2 : AO) (V3 : AV) (b3 : Bool) : ASt := mkSt [(0, R), (1, .cells z6c true), (2, .cells [] true), (3, R2), (4, .cells [V3, .bool b3, .bool true] true)] 11
noncomputable def vcA_s6 (R R2 : AO) (V4 : AV) (b4 : Bool) : ASt := mkSt [(0, R), (1, .cells z6c true), (2, .cells [] true), (3, R2), (4, .cells [V4, .bool b4, .bool true] true)] 13
noncomputable def vcA_s7 (R R2 : AO) (x0 x1 x2 : Nat) (V4 : AV) (b4 : Bool) : ASt := mkSt [(0, R), (1, .cells z6c true), (2, .cells [] true), (3, R2), (4, .cells [V4, .bool b4, .bool true] true), (13, .cells [.int .i64 (wrapF .i64 (.ofNat x0)), .int .u64 (.ofNat x1), .int .u64 (.ofNat x2), .int .u64 (.ofNat 0), .int .u64 (.ofNat 0), .slice none 0 (.known 0)] true)] 14
noncomputable def vcA_s8 (R R2 : AO) (x0 x1 x2 : Nat) (V5 : AV) (b5 : Bool) : ASt := mkSt [(0, R), (1, .cells z6c true), (2, .cells [] true), (3, R2), (4, .cells [V5, .bool b5, .bool true] true), (13, .cells [.int .i64 (wrapF .i64 (.ofNat x0)), .int .u64 (.ofNat x1), .int .u64 (.ofNat x2), .int .u64 (.ofNat 0), .int .u64 (.ofNat 0), .slice none 0 (.known 0)] true)] 16
noncomputable def vcA_s9 (R R2 : AO) (x0 x1 x2 x3 : Nat) (V5 : AV) (b5 : Bool) : ASt := mkSt [(0, R), (1, .cells z6c true), (2, .cells [] true), (3, R2), (4, .cells [V5, .bool b5, .bool true] true), (13, .cells [.int .i64 (wrapF .i64 (.ofNat x0)), .int .u64 (.ofNat x1), .int .u64 (.ofNat x2), .int .u64 (.ofNat x3), .int .u64 (.ofNat 0), .slice none 0 (.known 0)] true)] 16
noncomputable def vcA_s10 (R R2 : AO) (x0 x1 x2 x3 : Nat) (V6 : AV) (b6 : Bool) : ASt := mkSt [(0, R), (1, .cells z6c true), (2, .cells [] true), (3, R2), (4, .cells [V6, .bool b6, .bool true] true), (13, .cells [.int .i64 (wrapF .i64 (.ofNat x0)), .int .u64 (.ofNat x1), .int .u64 (.ofNat x2), .int .u64 (.ofNat x3), .int .u64 (.ofNat 0), .slice none 0 (.known 0)] true)] 18
noncomputable def vcA_s11 (R R2 : AO) : ASt := mkSt [(0, R), (3, R2)] 18
noncomputable def vcA_s12 (R R2 : AO) (x0 x1 x2 x3 : Nat) (V6 : AV) (b6 : Bool) : ASt := mkSt [(0, R), (1, .cells z6c true), (2, .cells [] true), (3, R2), (4, .cells [V6, .bool b6, .bool true] true), (13, .cells [.int .i64 (wrapF .i64 (.ofNat x0)), .int .u64 (.ofNat x1), .int .u64 (.ofNat x2), .int .u64 (.ofNat x3), .int .u64 (.ofNat 0), .slice none 0 (.known 0)] true)] 20
noncomputable def vcA_s13 (R R2 : AO) : ASt := mkSt [(0, R), (3, R2)] 20
noncomputable def vcA_s14 (R R2 R45 : AO) (x0 x1 x2 x3 : Nat) (V6 : AV) (b6 : Bool) : ASt := mkSt [(0, R), (1, .cells z6c true), (2, .cells [] true), (3, R2), (4, .cells [V6, .bool b6, .bool true] true), (13, .cells [.int .i64 (wrapF .i64 (.ofNat x0)), .int .u64 (.ofNat x1), .int .u64 (.ofNat x2), .int .u64 (.ofNat x3), .int .u64 (.ofNat 0), .slice none 0 (.known 0)] true), (49, R45)] 65
noncomputable def vcA_s15 (R R2 : AO) : ASt := mkSt [(0, R), (3, R2)] 65
theorem vcA (q : CallT) (n e ee : Nat) (R R2 R45 : AO) (mk eq : Bool) (ms : List Nat) (W2 W4 A : AV) (x0 x1 x2 x3 : Nat) (V0 V1 V2 V3 V4 V5 V6 : AV) (b1 b2 b3 b4 b5 b6 : Bool) (Q : AV × ASt → Prop) :
  (aBuiltinM E3 .append [25, 25] [.slice (some (2, 0)) 0 (.known 0), .slice (some (0, 0)) n (.atl n)] (vcA_s0 R) = some (.slice (some (3, 0)) n (.rest 1), vcA_s1 R R2) ∧ (M E3 (drawA E3) (sm2 q) 55).call 61 [.ptr (some (4, 0)), .int .i64 (.ofNat 2)] (vcA_s2 n R R2) = some (W2, vcA_s3 R R2 V1 b1) ∧ aConvert E3 25 9 W2 (vcA_s3 R R2 V1 b1) = some (.str ms, vcA_s3 R R2 V1 b1) ∧ (M E3 (drawA E3) (sm2 q) 54).call 62 [.ptr (some (4, 0)), .int .i64 (.ofNat 1)] (vcA_s3 R R2 V1 b1) = some (.int .u64 (.ofNat x0), vcA_s4 R R2 V2 b2) ∧ (M E3 (drawA E3) (sm2 q) 54).call 62 [.ptr (some (4, 0)), .int .i64 (.ofNat 8)] (vcA_s4 R R2 V2 b2) = some (.int .u64 (.ofNat x1), vcA_s5 R R2 V3 b3) ∧ (M E3 (drawA E3) (sm2 q) 54).call 62 [.ptr (some (4, 0)), .int .i64 (.ofNat 8)] (vcA_s5 R R2 V3 b3) = some (.int .u64 (.ofNat x2), vcA_s6 R R2 V4 b4) ∧ still (vcA_s7 R R2 x0 x1 x2 V4 b4) (aBin E3 .eql 61 (.tmp 23) (.const (.int .i64 2)) (.int .i64 (wrapF .i64 (.ofNat x0))) (.int .i64 (.ofNat 2))) = some (.bool false, vcA_s7 R R2 x0 x1 x2 V4 b4) ∧ still (vcA_s7 R R2 x0 x1 x2 V4 b4) (aBin E3 .eql 61 (.tmp 27) (.const (.int .i64 3)) (.int .i64 (wrapF .i64 (.ofNat x0))) (.int .i64 (.ofNat 3))) = some (.bool true, vcA_s7 R R2 x0 x1 x2 V4 b4) ∧ (M E3 (drawA E3) (sm2 q) 51).call 62 [.ptr (some (4, 0)), .int .i64 (.ofNat 8)] (vcA_s7 R R2 x0 x1 x2 V4 b4) = some (.int .u64 (.ofNat x3), vcA_s8 R R2 x0 x1 x2 V5 b5) ∧ still (vcA_s9 R R2 x0 x1 x2 x3 V5 b5) (aBin E3 .eql 61 (.tmp 34) (.const (.int .i64 2)) (.int .i64 (wrapF .i64 (.ofNat x0))) (.int .i64 (.ofNat 2))) = some (.bool false, vcA_s9 R R2 x0 x1 x2 x3 V5 b5) ∧ (M E3 (drawA E3) (sm2 q) 51).call 61 [.ptr (some (4, 0)), .int .i64 (.ofNat 4)] (vcA_s9 R R2 x0 x1 x2 x3 V5 b5) = some (W4, vcA_s10 R R2 x0 x1 x2 x3 V6 b6) ∧ still (vcA_s10 R R2 x0 x1 x2 x3 V6 b6) (aBin E3 .neq 9 (.tmp 44) (.const (.string { data := #[71, 80] })) (.str ms) (.str [71, 80])) = some (.bool mk, vcA_s10 R R2 x0 x1 x2 x3 V6 b6) ∧ ifB mk (Q (.tuple [.agg z6c, .int .i64 (.ofNat 4)], vcA_s11 R R2)) ((M E3 (drawA E3) (sm2 q) 49).call 64 [.ptr (some (4, 0))] (vcA_s10 R R2 x0 x1 x2 x3 V6 b6) = some (.int .i64 (.ofNat e), vcA_s12 R R2 x0 x1 x2 x3 V6 b6) ∧ ifB (!eqF (.ofNat e) (.ofNat 0)) (Q (.tuple [.agg z6c, .int .i64 (.ofNat 4)], vcA_s13 R R2)) ((M E3 (drawA E3) (sm2 q) 48).call 22 [.agg [.int .i64 (wrapF .i64 (.ofNat x0)), .int .u64 (.ofNat x1), .int .u64 (.ofNat x2), .int .u64 (.ofNat x3), .int .u64 (.ofNat 0), .slice none 0 (.known 0)]] (vcA_s12 R R2 x0 x1 x2 x3 V6 b6) = some (.tuple [A, .int .i64 (.ofNat ee)], vcA_s14 R R2 R45 x0 x1 x2 x3 V6 b6) ∧ ifB (!eqF (.ofNat ee) (.ofNat 0)) (Q (.tuple [.agg z6c, .int .i64 (.ofNat 4)], vcA_s15 R R2)) ((M E3 (drawA E3) (sm2 q) 47).call 65 [A, .slice (some (0, 0)) n (.atl n)] (vcA_s14 R R2 R45 x0 x1 x2 x3 V6 b6) = some (.bool eq, vcA_s14 R R2 R45 x0 x1 x2 x3 V6 b6) ∧ ifB eq (Q (.tuple [.agg [.int .i64 (wrapF .i64 (.ofNat x0)), .int .u64 (.ofNat x1), .int .u64 (.ofNat x2), .int .u64 (.ofNat x3), .int .u64 (.ofNat 0), .slice none 0 (.known 0)], .int .i64 (.ofNat 0)], vcA_s15 R R2)) (Q (.tuple [.agg z6c, .int .i64 (.ofNat 4)], vcA_s15 R R2)))))) =
  (tA q n e ee R R2 R45 mk eq ms W2 W4 A x0 x1 x2 x3 V0 V1 V2 V3 V4 V5 V6 b1 b2 b3 b4 b5 b6).allY (fun r => Q (r.1, canS [0, 3] r.2)) (.v (.slice (some (3, 0)) n (.rest 1), vcA_s1 R R2) (.v (W2, vcA_s3 R R2 V1 b1) (.v (.str ms, vcA_s3 R R2 V1 b1) (.v (.int .u64 (.ofNat x0), vcA_s4 R R2 V2 b2) (.v (.int .u64 (.ofNat x1), vcA_s5 R R2 V3 b3) (.v (.int .u64 (.ofNat x2), vcA_s6 R R2 V4 b4) (.v (.bool false, vcA_s7 R R2 x0 x1 x2 V4 b4) (.v (.bool true, vcA_s7 R R2 x0 x1 x2 V4 b4) (.v (.int .u64 (.ofNat x3), vcA_s8 R R2 x0 x1 x2 V5 b5) (.v (.bool false, vcA_s9 R R2 x0 x1 x2 x3 V5 b5) (.v (W4, vcA_s10 R R2 x0 x1 x2 x3 V6 b6) (.v (.bool mk, vcA_s10 R R2 x0 x1 x2 x3 V6 b6) (.b .nil (.v (.int .i64 (.ofNat e), vcA_s12 R R2 x0 x1 x2 x3 V6 b6) (.b .nil (.v (.tuple [A, .int .i64 (.ofNat ee)], vcA_s14 R R2 R45 x0 x1 x2 x3 V6 b6) (.b .nil (.v (.bool eq, vcA_s14 R R2 R45 x0 x1 x2 x3 V6 b6) (.b .nil .nil))))))))))))))))))) := by kernel_rfl
noncomputable def vcD_s0 (R : AO) : ASt := mkSt [(0, R), (1, .cells z6c true), (2, .cells [] true)] 3
noncomputable def vcD_s1 (R R2 : AO) : ASt := mkSt [(0, R), (1, .cells z6c true), (2, .cells [] true), (3, R2)] 4
noncomputable def vcD_s2 (n : Nat) (R R2 : AO) : ASt := mkSt [(0, R), (1, .cells z6c true), (2, .cells [] true), (3, R2), (4, .cells [.slice (some (3, 0)) n (.rest 1), .bool false, .bool true] true)] 5
noncomputable def vcD_s3 (R R2 : AO) (V1 : AV) (b1 : Bool) : ASt := mkSt [(0, R), (1, .cells z6c true), (2, .cells [] true), (3, R2), (4, .cells [V1, .bool b1, .bool true] true)] 7
noncomputable def vcD_s4 (R R2 : AO) (V2 : AV) (b2 : Bool) : ASt := mkSt [(0, R), (1, .cells z6c true), (2, .cells [] true), (3, R2), (4, .cells [V2, .bool b2, .bool true] true)] 9
noncomputable def vcD_s5 (R R2 : AO) (V3 : AV) (b3 : Bool) : ASt := mkSt [(0, R), (1, .cells z6c true), (2, .cells [] true), (3, R2), (4, .cells [V3, .bool b3, .bool true] true)] 11
noncomputable def vcD_s6 (R R2 : AO) (V4 : AV) (b4 : Bool) : ASt := mkSt [(0, R), (1, .cells z6c true), (2, .cells [] true), (3, R2), (4, .cells [V4, .bool b4, .bool true] true)] 13
noncomputable def vcD_s7 (R R2 : AO) (V4 : AV) (b4 : Bool) : ASt := mkSt [(0, R), (1, .cells z6c true), (2, .cells [] true), (3, R2), (4, .cells [V4, .bool b4, .bool true] true), (13, .cells z6c true)] 14
noncomputable def vcD_s8 (R R2 : AO) (x0 x1 x2 : Nat) (V4 : AV) (b4 : Bool) : ASt := mkSt [(0, R), (1, .cells z6c true), (2, .cells [] true), (3, R2), (4, .cells [V4, .bool b4, .bool true] true), (13, .cells [.int .i64 (wrapF .i64 (.ofNat x0)), .int .u64 (.ofNat x1), .int .u64 (.ofNat x2), .int .u64 (.ofNat 0), .int .u64 (.ofNat 0), .slice none 0 (.known 0)] true)] 14
noncomputable def vcD_s9 (R R2 : AO) (x0 x1 x2 : Nat) (V5 : AV) (b5 : Bool) : ASt := mkSt [(0, R), (1, .cells z6c true), (2, .cells [] true), (3, R2), (4, .cells [V5, .bool b5, .bool true] true), (13, .cells [.int .i64 (wrapF .i64 (.ofNat x0)), .int .u64 (.ofNat x1), .int .u64 (.ofNat x2), .int .u64 (.ofNat 0), .int .u64 (.ofNat 0), .slice none 0 (.known 0)] true)] 16
noncomputable def vcD_s10 (R R2 : AO) (x0 x1 x2 x3 : Nat) (V5 : AV) (b5 : Bool) : ASt := mkSt [(0, R), (1, .cells z6c true), (2, .cells [] true), (3, R2), (4, .cells [V5, .bool b5, .bool true] true), (13, .cells [.int .i64 (wrapF .i64 (.ofNat x0)), .int .u64 (.ofNat x1), .int .u64 (.ofNat x2), .int .u64 (.ofNat x3), .int .u64 (.ofNat 0), .slice none 0 (.known 0)] true)] 16
noncomputable def vcD_s11 (R R2 : AO) (x0 x1 x2 x3 : Nat) (V6 : AV) (b6 : Bool) : ASt := mkSt [(0, R), (1, .cells z6c true), (2, .cells [] true), (3, R2), (4, .cells [V6, .bool b6, .bool true] true), (13, .cells [.int .i64 (wrapF .i64 (.ofNat x0)), .int .u64 (.ofNat x1), .int .u64 (.ofNat x2), .int .u64 (.ofNat x3), .int .u64 (.ofNat 0), .slice none 0 (.known 0)] true)] 18
noncomputable def vcD_s12 (R R2 : AO) (x0 x1 x2 x3 : Nat) (V7 : AV) (b7 : Bool) : ASt := mkSt [(0, R), (1, .cells z6c true), (2, .cells [] true), (3, R2), (4, .cells [V7, .bool b7, .bool true] true), (13, .cells [.int .i64 (wrapF .i64 (.ofNat x0)), .int .u64 (.ofNat x1), .int .u64 (.ofNat x2), .int .u64 (.ofNat x3), .int .u64 (.ofNat 0), .slice none 0 (.known 0)] true)] 20
noncomputable def vcD_s13 (R R2 : AO) (x0 x1 x2 x3 x4 : Nat) (V7 : AV) (b7 : Bool) : ASt := mkSt [(0, R), (1, .cells z6c true), (2, .cells [] true), (3, R2), (4, .cells [V7, .bool b7, .bool true] true), (13, .cells [.int .i64 (wrapF .i64 (.ofNat x0)), .int .u64 (.ofNat x1), .int .u64 (.ofNat x2), .int .u64 (.ofNat x3), .int .u64 (.ofNat x4), .slice none 0 (.known 0)] true)] 20
noncomputable def vcD_s14 (R R2 : AO) (W : AV) (x0 x1 x2 x3 x4 : Nat) (V7 : AV) (b7 : Bool) : ASt := mkSt [(0, R), (1, .cells z6c true), (2, .cells [] true), (3, R2), (4, .cells [V7, .bool b7, .bool true] true), (13, .cells [.int .i64 (wrapF .i64 (.ofNat x0)), .int .u64 (.ofNat x1), .int .u64 (.ofNat x2), .int .u64 (.ofNat x3), .int .u64 (.ofNat x4), W] true)] 20
noncomputable def vcD_s15 (R R2 : AO) (W : AV) (x0 x1 x2 x3 x4 : Nat) (V8 : AV) (b8 : Bool) : ASt := mkSt [(0, R), (1, .cells z6c true), (2, .cells [] true), (3, R2), (4, .cells [V8, .bool b8, .bool true] true), (13, .cells [.int .i64 (wrapF .i64 (.ofNat x0)), .int .u64 (.ofNat x1), .int .u64 (.ofNat x2), .int .u64 (.ofNat x3), .int .u64 (.ofNat x4), W] true)] 22
noncomputable def vcD_s16 (R R2 : AO) : ASt := mkSt [(0, R), (3, R2)] 22
noncomputable def vcD_s17 (R R2 : AO) (W : AV) (x0 x1 x2 x3 x4 : Nat) (V8 : AV) (b8 : Bool) : ASt := mkSt [(0, R), (1, .cells z6c true), (2, .cells [] true), (3, R2), (4, .cells [V8, .bool b8, .bool true] true), (13, .cells [.int .i64 (wrapF .i64 (.ofNat x0)), .int .u64 (.ofNat x1), .int .u64 (.ofNat x2), .int .u64 (.ofNat x3), .int .u64 (.ofNat x4), W] true)] 24
noncomputable def vcD_s18 (R R2 : AO) : ASt := mkSt [(0, R), (3, R2)] 24
noncomputable def vcD_s19 (R R2 R49 : AO) (W : AV) (x0 x1 x2 x3 x4 : Nat) (V8 : AV) (b8 : Bool) : ASt := mkSt [(0, R), (1, .cells z6c true), (2, .cells [] true), (3, R2), (4, .cells [V8, .bool b8, .bool true] true), (13, .cells [.int .i64 (wrapF .i64 (.ofNat x0)), .int .u64 (.ofNat x1), .int .u64 (.ofNat x2), .int .u64 (.ofNat x3), .int .u64 (.ofNat x4), W] true), (68, R49)] 69
noncomputable def vcD_s20 (R R2 : AO) : ASt := mkSt [(0, R), (3, R2)] 69
noncomputable def vcD_s21 (R R2 R49 : AO) (W : AV) (x0 x1 x2 x3 x4 : Nat) (V8 : AV) (b8 : Bool) : ASt := mkSt [(0, R), (1, .cells [.int .i64 (wrapF .i64 (.ofNat x0)), .int .u64 (.ofNat x1), .int .u64 (.ofNat x2), .int .u64 (.ofNat x3), .int .u64 (.ofNat x4), W] true), (2, .cells [] true), (3, R2), (4, .cells [V8, .bool b8, .bool true] true), (13, .cells [.int .i64 (wrapF .i64 (.ofNat x0)), .int .u64 (.ofNat x1), .int .u64 (.ofNat x2), .int .u64 (.ofNat x3), .int .u64 (.ofNat x4), W] true), (68, R49)] 69
theorem vcD (q : CallT) (n e ee : Nat) (R R2 R49 : AO) (mk eq : Bool) (ms : List Nat) (W2 W4 A W : AV) (x0 x1 x2 x3 x4 : Nat) (V0 V1 V2 V3 V4 V5 V6 V7 V8 : AV) (b1 b2 b3 b4 b5 b6 b7 b8 : Bool) (Q : AV × ASt → Prop) :
  (aBuiltinM E3 .append [25, 25] [.slice (some (2, 0)) 0 (.known 0), .slice (some (0, 0)) n (.atl n)] (vcD_s0 R) = some (.slice (some (3, 0)) n (.rest 1), vcD_s1 R R2) ∧ (M E3 (drawA E3) (sm2 q) 55).call 61 [.ptr (some (4, 0)), .int .i64 (.ofNat 2)] (vcD_s2 n R R2) = some (W2, vcD_s3 R R2 V1 b1) ∧ aConvert E3 25 9 W2 (vcD_s3 R R2 V1 b1) = some (.str ms, vcD_s3 R R2 V1 b1) ∧ (M E3 (drawA E3) (sm2 q) 54).call 62 [.ptr (some (4, 0)), .int .i64 (.ofNat 1)] (vcD_s3 R R2 V1 b1) = some (.int .u64 (.ofNat x0), vcD_s4 R R2 V2 b2) ∧ (M E3 (drawA E3) (sm2 q) 54).call 62 [.ptr (some (4, 0)), .int .i64 (.ofNat 8)] (vcD_s4 R R2 V2 b2) = some (.int .u64 (.ofNat x1), vcD_s5 R R2 V3 b3) ∧ (M E3 (drawA E3) (sm2 q) 54).call 62 [.ptr (some (4, 0)), .int .i64 (.ofNat 8)] (vcD_s5 R R2 V3 b3) = some (.int .u64 (.ofNat x2), vcD_s6 R R2 V4 b4) ∧ Option.map (fun s => (undefA, s)) (aStore E3 63 (.ptr (some (13, 0))) (.agg [.int .i64 (wrapF .i64 (.ofNat x0)), .int .u64 (.ofNat x1), .int .u64 (.ofNat x2), .int .u64 (.ofNat 0), .int .u64 (.ofNat 0), .slice none 0 (.known 0)]) (vcD_s7 R R2 V4 b4)) = some (.tuple [], vcD_s8 R R2 x0 x1 x2 V4 b4) ∧ still (vcD_s8 R R2 x0 x1 x2 V4 b4) (aBin E3 .eql 61 (.tmp 23) (.const (.int .i64 2)) (.int .i64 (wrapF .i64 (.ofNat x0))) (.int .i64 (.ofNat 2))) = some (.bool true, vcD_s8 R R2 x0 x1 x2 V4 b4) ∧ (M E3 (drawA E3) (sm2 q) 51).call 62 [.ptr (some (4, 0)), .int .i64 (.ofNat 8)] (vcD_s8 R R2 x0 x1 x2 V4 b4) = some (.int .u64 (.ofNat x3), vcD_s9 R R2 x0 x1 x2 V5 b5) ∧ Option.map (fun s => (undefA, s)) (aStore E3 28 (.ptr (some (13, 3))) (.int .u64 (.ofNat x3)) (vcD_s9 R R2 x0 x1 x2 V5 b5)) = some (.tuple [], vcD_s10 R R2 x0 x1 x2 x3 V5 b5) ∧ still (vcD_s10 R R2 x0 x1 x2 x3 V5 b5) (aBin E3 .eql 61 (.tmp 34) (.const (.int .i64 2)) (.int .i64 (wrapF .i64 (.ofNat x0))) (.int .i64 (.ofNat 2))) = some (.bool true, vcD_s10 R R2 x0 x1 x2 x3 V5 b5) ∧ (M E3 (drawA E3) (sm2 q) 50).call 62 [.ptr (some (4, 0)), .int .i64 (.ofNat 8)] (vcD_s10 R R2 x0 x1 x2 x3 V5 b5) = some (.int .u64 (.ofNat x4), vcD_s11 R R2 x0 x1 x2 x3 V6 b6) ∧ (M E3 (drawA E3) (sm2 q) 50).call 63 [.ptr (some (4, 0))] (vcD_s11 R R2 x0 x1 x2 x3 V6 b6) = some (W, vcD_s12 R R2 x0 x1 x2 x3 V7 b7) ∧ Option.map (fun s => (undefA, s)) (aStore E3 28 (.ptr (some (13, 4))) (.int .u64 (.ofNat x4)) (vcD_s12 R R2 x0 x1 x2 x3 V7 b7)) = some (.tuple [], vcD_s13 R R2 x0 x1 x2 x3 x4 V7 b7) ∧ Option.map (fun s => (undefA, s)) (aStore E3 25 (.ptr (some (13, 5))) W (vcD_s13 R R2 x0 x1 x2 x3 x4 V7 b7)) = some (.tuple [], vcD_s14 R R2 W x0 x1 x2 x3 x4 V7 b7) ∧ (M E3 (drawA E3) (sm2 q) 51).call 61 [.ptr (some (4, 0)), .int .i64 (.ofNat 4)] (vcD_s14 R R2 W x0 x1 x2 x3 x4 V7 b7) = some (W4, vcD_s15 R R2 W x0 x1 x2 x3 x4 V8 b8) ∧ still (vcD_s15 R R2 W x0 x1 x2 x3 x4 V8 b8) (aBin E3 .neq 9 (.tmp 44) (.const (.string { data := #[71, 80] })) (.str ms) (.str [71, 80])) = some (.bool mk, vcD_s15 R R2 W x0 x1 x2 x3 x4 V8 b8) ∧ ifB mk (Option.map (fun s => (undefA, s)) (aStore E3 63 (.ptr (some (1, 0))) (.agg z6c) (vcD_s15 R R2 W x0 x1 x2 x3 x4 V8 b8)) = some (.tuple [], vcD_s15 R R2 W x0 x1 x2 x3 x4 V8 b8) ∧ Q (.tuple [.agg z6c, .int .i64 (.ofNat 4)], vcD_s16 R R2)) ((M E3 (drawA E3) (sm2 q) 49).call 64 [.ptr (some (4, 0))] (vcD_s15 R R2 W x0 x1 x2 x3 x4 V8 b8) = some (.int .i64 (.ofNat e), vcD_s17 R R2 W x0 x1 x2 x3 x4 V8 b8) ∧ ifB (!eqF (.ofNat e) (.ofNat 0)) (Option.map (fun s => (undefA, s)) (aStore E3 63 (.ptr (some (1, 0))) (.agg z6c) (vcD_s17 R R2 W x0 x1 x2 x3 x4 V8 b8)) = some (.tuple [], vcD_s17 R R2 W x0 x1 x2 x3 x4 V8 b8) ∧ Q (.tuple [.agg z6c, .int .i64 (.ofNat 4)], vcD_s18 R R2)) ((M E3 (drawA E3) (sm2 q) 48).call 22 [.agg [.int .i64 (wrapF .i64 (.ofNat x0)), .int .u64 (.ofNat x1), .int .u64 (.ofNat x2), .int .u64 (.ofNat x3), .int .u64 (.ofNat x4), W]] (vcD_s17 R R2 W x0 x1 x2 x3 x4 V8 b8) = some (.tuple [A, .int .i64 (.ofNat ee)], vcD_s19 R R2 R49 W x0 x1 x2 x3 x4 V8 b8) ∧ ifB (!eqF (.ofNat ee) (.ofNat 0)) (Option.map (fun s => (undefA, s)) (aStore E3 63 (.ptr (some (1, 0))) (.agg z6c) (vcD_s19 R R2 R49 W x0 x1 x2 x3 x4 V8 b8)) = some (.tuple [], vcD_s19 R R2 R49 W x0 x1 x2 x3 x4 V8 b8) ∧ Q (.tuple [.agg z6c, .int .i64 (.ofNat 4)], vcD_s20 R R2)) ((M E3 (drawA E3) (sm2 q) 47).call 65 [A, .slice (some (0, 0)) n (.atl n)] (vcD_s19 R R2 R49 W x0 x1 x2 x3 x4 V8 b8) = some (.bool eq, vcD_s19 R R2 R49 W x0 x1 x2 x3 x4 V8 b8) ∧ ifB eq (Option.map (fun s => (undefA, s)) (aStore E3 63 (.ptr (some (1, 0))) (.agg [.int .i64 (wrapF .i64 (.ofNat x0)), .int .u64 (.ofNat x1), .int .u64 (.ofNat x2), .int .u64 (.ofNat x3), .int .u64 (.ofNat x4), W]) (vcD_s19 R R2 R49 W x0 x1 x2 x3 x4 V8 b8)) = some (.tuple [], vcD_s21 R R2 R49 W x0 x1 x2 x3 x4 V8 b8) ∧ Q (.tuple [.agg [.int .i64 (wrapF .i64 (.ofNat x0)), .int .u64 (.ofNat x1), .int .u64 (.ofNat x2), .int .u64 (.ofNat x3), .int .u64 (.ofNat x4), W], .int .i64 (.ofNat 0)], vcD_s20 R R2)) (Option.map (fun s => (undefA, s)) (aStore E3 63 (.ptr (some (1, 0))) (.agg z6c) (vcD_s19 R R2 R49 W x0 x1 x2 x3 x4 V8 b8)) = some (.tuple [], vcD_s19 R R2 R49 W x0 x1 x2 x3 x4 V8 b8) ∧ Q (.tuple [.agg z6c, .int .i64 (.ofNat 4)], vcD_s20 R R2)))))) =
  (tD q n e ee R R2 R49 mk eq ms W2 W4 A W x0 x1 x2 x3 x4 V0 V1 V2 V3 V4 V5 V6 V7 V8 b1 b2 b3 b4 b5 b6 b7 b8).allY (fun r => Q (r.1, canS [0, 3] r.2)) (.v (.slice (some (3, 0)) n (.rest 1), vcD_s1 R R2) (.v (W2, vcD_s3 R R2 V1 b1) (.v (.str ms, vcD_s3 R R2 V1 b1) (.v (.int .u64 (.ofNat x0), vcD_s4 R R2 V2 b2) (.v (.int .u64 (.ofNat x1), vcD_s5 R R2 V3 b3) (.v (.int .u64 (.ofNat x2), vcD_s6 R R2 V4 b4) (.v (.tuple [], vcD_s8 R R2 x0 x1 x2 V4 b4) (.v (.bool true, vcD_s8 R R2 x0 x1 x2 V4 b4) (.v (.int .u64 (.ofNat x3), vcD_s9 R R2 x0 x1 x2 V5 b5) (.v (.tuple [], vcD_s10 R R2 x0 x1 x2 x3 V5 b5) (.v (.bool true, vcD_s10 R R2 x0 x1 x2 x3 V5 b5) (.v (.int .u64 (.ofNat x4), vcD_s11 R R2 x0 x1 x2 x3 V6 b6) (.v (W, vcD_s12 R R2 x0 x1 x2 x3 V7 b7) (.v (.tuple [], vcD_s13 R R2 x0 x1 x2 x3 x4 V7 b7) (.v (.tuple [], vcD_s14 R R2 W x0 x1 x2 x3 x4 V7 b7) (.v (W4, vcD_s15 R R2 W x0 x1 x2 x3 x4 V8 b8) (.v (.bool mk, vcD_s15 R R2 W x0 x1 x2 x3 x4 V8 b8) (.b (.v (.tuple [], vcD_s15 R R2 W x0 x1 x2 x3 x4 V8 b8) .nil) (.v (.int .i64 (.ofNat e), vcD_s17 R R2 W x0 x1 x2 x3 x4 V8 b8) (.b (.v (.tuple [], vcD_s17 R R2 W x0 x1 x2 x3 x4 V8 b8) .nil) (.v (.tuple [A, .int .i64 (.ofNat ee)], vcD_s19 R R2 R49 W x0 x1 x2 x3 x4 V8 b8) (.b (.v (.tuple [], vcD_s19 R R2 R49 W x0 x1 x2 x3 x4 V8 b8) .nil) (.v (.bool eq, vcD_s19 R R2 R49 W x0 x1 x2 x3 x4 V8 b8) (.b (.v (.tuple [], vcD_s21 R R2 R49 W x0 x1 x2 x3 x4 V8 b8) .nil) (.v (.tuple [], vcD_s19 R R2 R49 W x0 x1 x2 x3 x4 V8 b8) .nil))))))))))))))))))))))))) := by kernel_rfl
end Go.Proofs.Ytlnohbilfogheaa.rdr
end

section
open Go Go.Ax Go.Proofs.Ytlnohbilfogheaa Go.Proofs.Ytlnohbilfogheaa.rdr
namespace Go.Proofs.Ytlnohbilfogheaa.pof
set_option linter.unusedVariables false
def natOf : AV → Nat
  | .int _ (.ofNat n) => n
  | _ => 0
def U8 (c : AV) : Prop := ∃ n, n < 256 ∧ c = cellU n
theorem nats_U : ∀ {cs : List AV}, (∀ c, c ∈ cs → U8 c) → (cs.map natOf).map cellU = cs
  | [], _ => rfl
  | c :: cs, h => by
    obtain ⟨n, _, rfl⟩ := h c List.mem_cons_self
    simp only [List.map_cons]
    rw [nats_U fun y hy => h y (List.mem_cons_of_mem _ hy)]
    rfl
theorem nats_lt {cs : List AV} (h : ∀ c, c ∈ cs → U8 c) : ∀ x, x ∈ cs.map natOf → x < 256 := fun x hx => by
  obtain ⟨c, hc, rfl⟩ := List.mem_map.1 hx
  obtain ⟨n, hn, rfl⟩ := h c hc
  exact hn
theorem U8W (z : Int) : U8 (.int .u8 (wrapF .u8 z)) := by
  have hb : modN z (big .u8) < 256 := by
    show modN z 256 < 256
    cases z with
    | ofNat m => exact Nat.mod_lt _ (by omega)
    | negSucc m => exact Nat.lt_of_le_of_lt (Nat.sub_le _ _) (by omega)
  refine ⟨modN z (big .u8), hb, ?_⟩
  unfold wrapF
  have hh : Nat.blt (modN z (big .u8)) (half .u8) = true := blt_t hb
  show AV.int .u8 (bif Nat.blt (modN z (big .u8)) (half .u8) then Int.ofNat (modN z (big .u8)) else _) = _
  rw [hh]; rfl
theorem U8c {l : List Nat} (hB : ∀ x, x ∈ l → x < 256) : ∀ c, c ∈ l.map cellU → U8 c := fun c hc => by
  obtain ⟨x, hx, rfl⟩ := List.mem_map.1 hc
  exact ⟨x, hB x hx, rfl⟩
theorem U8app {x y : List AV} (hx : ∀ c, c ∈ x → U8 c) (hy : ∀ c, c ∈ y → U8 c) : ∀ c, c ∈ x ++ y → U8 c := fun c hc => (List.mem_append.1 hc).elim (hx c) (hy c)
theorem U8be (x : Int) : ∀ c, c ∈ pky.be8 x → U8 c := fun c hc => by
  simp only [pky.be8, List.mem_cons, List.not_mem_nil, or_false] at hc
  rcases hc with rfl | rfl | rfl | rfl | rfl | rfl | rfl | rfl <;> exact U8W _
theorem U8hd {k : Nat} (hk : k < 256) (m t : Int) : ∀ c, c ∈ pky.hd k m t → U8 c := fun c hc => by
  simp only [pky.hd, List.mem_cons, List.mem_append] at hc
  rcases hc with rfl | rfl | rfl | hc | hc
  · exact ⟨71, by decide, rfl⟩
  · exact ⟨80, by decide, rfl⟩
  · exact ⟨k, hk, rfl⟩
  · exact U8be _ c hc
  · exact U8be _ c hc
theorem U8two (n : Nat) : ∀ c, c ∈ wri.two n → U8 c := fun c hc => by
  simp only [wri.two, List.mem_cons, List.not_mem_nil, or_false] at hc
  rcases hc with rfl | rfl <;> exact U8W _
theorem U8tl (row : List AV) : ∀ c, c ∈ pky.tl4 (pky.hashX row) → U8 c := fun c hc => by
  simp only [pky.tl4, List.mem_cons, List.not_mem_nil, or_false] at hc
  rcases hc with rfl | rfl | rfl | rfl <;> exact U8W _
noncomputable def full (row : List AV) : List AV := row ++ pky.tl4 (pky.hashX row)
noncomputable def bdO (k m t : Nat) : List Nat := (full (pky.hd k (.ofNat m) (.ofNat t))).map natOf
noncomputable def bdA (m t a : Nat) : List Nat := (full (pky.row3 (.ofNat m) (.ofNat t) (.ofNat a))).map natOf
noncomputable def bdD (m t a s : Nat) (l : List Nat) : List Nat := (full (pky.row2 (.ofNat m) (.ofNat t) (.ofNat a) (.ofNat s) l)).map natOf
theorem bdO_U {k m t : Nat} (hk : k < 256) : (bdO k m t).map cellU = full (pky.hd k (.ofNat m) (.ofNat t)) := nats_U (U8app (U8hd hk _ _) (U8tl _))
theorem bdA_U {m t a : Nat} : (bdA m t a).map cellU = full (pky.row3 (.ofNat m) (.ofNat t) (.ofNat a)) := nats_U (U8app (U8app (U8hd (by decide) _ _) (U8be _)) (U8tl _))
theorem bdD_U {m t a s : Nat} {l : List Nat} (hB : ∀ x, x ∈ l → x < 256) : (bdD m t a s l).map cellU = full (pky.row2 (.ofNat m) (.ofNat t) (.ofNat a) (.ofNat s) l) :=
  nats_U (U8app (U8app (U8app (U8app (U8hd (by decide) _ _) (U8app (U8be _) (U8be _))) (U8two _)) (U8c hB)) (U8tl _))
theorem bdO_len {k m t : Nat} : (bdO k m t).length = 23 := by simp [bdO, full, pky.hd, pky.be8, pky.tl4]
theorem bdA_len {m t a : Nat} : (bdA m t a).length = 31 := by simp [bdA, full, pky.row3, pky.hd, pky.be8, pky.tl4]
theorem bdD_len {m t a s : Nat} {l : List Nat} : (bdD m t a s l).length = 37 + l.length + 4 := by
  rw [bdD, List.length_map, full, List.length_append, pky.row2_len]; rfl
theorem bdO_hd {k m t : Nat} : ∃ r, bdO k m t = 71 :: 80 :: r := ⟨_, rfl⟩
theorem bdA_hd {m t a : Nat} : ∃ r, bdA m t a = 71 :: 80 :: r := ⟨_, rfl⟩
theorem bdD_hd {m t a s : Nat} {l : List Nat} : ∃ r, bdD m t a s l = 71 :: 80 :: r := ⟨_, rfl⟩
def x0 (l : List Nat) : Nat := beN l 2 1
def x1 (l : List Nat) : Nat := beN l 3 8
def x2 (l : List Nat) : Nat := beN l 11 8
def x3 (l : List Nat) : Nat := beN l 19 8
def x4 (l : List Nat) : Nat := beN l 27 8
def nP (l : List Nat) : Nat := beN l 35 2
def plD (l : List Nat) : List Nat := (l.drop 37).take (nP l)
def mayO (k m t : Nat) : Bool := pkb.mayB (.ofNat k) (.ofNat m) (.ofNat t) (.ofNat 0) (.ofNat 0) 0
def mayA (m t a : Nat) : Bool := pkb.mayB (.ofNat 3) (.ofNat m) (.ofNat t) (.ofNat a) (.ofNat 0) 0
def mayD (m t a s n : Nat) : Bool := pkb.mayB (.ofNat 2) (.ofNat m) (.ofNat t) (.ofNat a) (.ofNat s) n
def goodO (l : List Nat) : Prop := x0 l ≠ 2 ∧ x0 l ≠ 3 ∧ l.length = 23 ∧ mayO (x0 l) (x1 l) (x2 l) = true ∧ bdO (x0 l) (x1 l) (x2 l) = l
def goodA (l : List Nat) : Prop := x0 l = 3 ∧ l.length = 31 ∧ mayA (x1 l) (x2 l) (x3 l) = true ∧ bdA (x1 l) (x2 l) (x3 l) = l
def goodD (l : List Nat) : Prop := x0 l = 2 ∧ l.length = 41 + nP l ∧ mayD (x1 l) (x2 l) (x3 l) (x4 l) (nP l) = true ∧ bdD (x1 l) (x2 l) (x3 l) (x4 l) (plD l) = l
def good (l : List Nat) : Prop := goodO l ∨ goodA l ∨ goodD l
def pV (k m t a s : Nat) (v : AV) : AV := .agg [.int .i64 (.ofNat k), .int .u64 (.ofNat m), .int .u64 (.ofNat t), .int .u64 (.ofNat a), .int .u64 (.ofNat s), v]
def zP : AV := pV 0 0 0 0 0 nilV
def pkV (r : Nat) (l : List Nat) : AV := bif Nat.beq (x0 l) 2 then pV 2 (x1 l) (x2 l) (x3 l) (x4 l) (.slice (some (r, 37)) (nP l) (.known (nP l))) else bif Nat.beq (x0 l) 3 then pV 3 (x1 l) (x2 l) (x3 l) 0 nilV else pV (x0 l) (x1 l) (x2 l) 0 0 nilV
open Classical in
noncomputable def resV (r : Nat) (l : List Nat) : AV := if good l then .tuple [pkV r l, nI 0] else .tuple [zP, nI 4]
section
variable {l : List Nat} {o s : Nat} {bad : Bool}
theorem to_inv (h : toB l o bad s = false) : bad = false ∧ s ≤ l.length - o ∧ toO l o bad s = o + s := by
  cases bad with
  | true => cases h
  | false =>
    have h' : Nat.blt (l.length - o) s = false := h
    refine ⟨rfl, ?_, ?_⟩
    · cases Nat.lt_or_ge (l.length - o) s with
      | inl g => rw [blt_t g] at h'; cases h'
      | inr g => exact g
    · show (bif Nat.blt (l.length - o) s then o else o + s) = o + s
      rw [h']; rfl
theorem to_ok (h : s ≤ l.length - o) : toB l o false s = false ∧ toO l o false s = o + s := by
  have h' : Nat.blt (l.length - o) s = false := blt_f h
  exact ⟨h', by show (bif Nat.blt (l.length - o) s then o else o + s) = o + s; rw [h']; rfl⟩
theorem end_inv (ho : o ≤ l.length) (h : endN l o bad = 0) : bad = false ∧ o = l.length := by
  unfold endN at h
  cases bad with
  | true => cases h
  | false =>
    refine ⟨rfl, ?_⟩
    cases Nat.lt_or_ge 0 (l.length - o) with
    | inl g => rw [blt_t g] at h; cases h
    | inr g => omega
theorem end_ok : endN l l.length false = 0 := by
  unfold endN
  rw [blt_f (by omega)]; rfl
theorem numV_ok {k : Nat} (h : toB l o bad k = false) : numV l o bad k = beN l o k := by unfold numV; rw [h]; rfl
theorem numV_lt {k : Nat} (hB : ∀ x, x ∈ l → x < 256) (hk : k ≤ 8) : numV l o bad k < 256 ^ k := by
  unfold numV
  cases toB l o bad k
  · exact beN_lt (fun i => getD_lt hB) k hk
  · exact Nat.pow_pos (by omega)
def cutR (r : Nat) (l : List Nat) (o : Nat) (bad : Bool) (s : Nat) : AV := mapV (fun _ => r) (cutW l o bad s)
theorem cut_forms (ho : o ≤ l.length) : (cutW l o bad s = nilV ∧ ∀ r, cutR r l o bad s = nilV) ∨ (cutW l o bad s = .slice0 ∧ ∀ r, cutR r l o bad s = .slice0) ∨ (cutW l o bad s = .slice (some (0, o)) s (.known s) ∧ ∀ r, cutR r l o bad s = .slice (some (r, o)) s (.known s)) := by
  unfold cutR cutW
  cases toB l o bad s
  · rcases forms ho with ⟨_, _, _, e⟩ | ⟨_, _, _, e⟩ | ⟨_, _, _, e⟩
    · exact .inl ⟨e s, fun r => by rw [cond_false, e s]; rfl⟩
    · exact .inr (.inl ⟨e s, fun r => by rw [cond_false, e s]; rfl⟩)
    · exact .inr (.inr ⟨e s, fun r => by rw [cond_false, e s]; rfl⟩)
  · exact .inl ⟨rfl, fun r => rfl⟩
theorem cut_map {r : Nat} (ho : o ≤ l.length) : ∀ g : Nat → Nat, g 0 = r → mapV g (cutW l o bad s) = cutR r l o bad s := fun g hg => by
  rcases cut_forms (l := l) (o := o) (bad := bad) (s := s) ho with ⟨e, e2⟩ | ⟨e, e2⟩ | ⟨e, e2⟩
  · rw [e, e2]; rfl
  · rw [e, e2]; rfl
  · rw [e, e2, ← hg]; rfl
theorem cut_sl {S : ASt} {r : Nat} {rw : Bool} (hr : S.h.get r = some (.cells (l.map cellU) rw)) (ho : o ≤ l.length) : SlB S (cutR r l o bad s) (if toB l o bad s then [] else (l.drop o).take s) := by
  unfold cutR cutW
  cases hb : toB l o bad s with
  | true => exact .nil
  | false =>
    obtain ⟨rfl, hs, _⟩ := to_inv hb
    rw [cond_false]
    rcases forms ho with ⟨rfl, rfl, _, e⟩ | ⟨_, rfl, _, e⟩ | ⟨_, hlt, _, e⟩
    · rw [e s]; simp; exact .nil
    · rw [e s]; simp; exact .zero
    · rw [e s]
      refine SlB.row hr ?_
      have e2 : ((l.map cellU).drop o).take s = ((l.drop o).take s).map cellU := by rw [← List.map_drop, ← List.map_take]
      unfold takeL
      rw [e2]
      have e3 : (((l.drop o).take s).map cellU).length = s := by rw [List.length_map, List.length_take, List.length_drop]; omega
      simp only [e3, Nat.beq_refl, cond_true]
      rfl
end
end Go.Proofs.Ytlnohbilfogheaa.pof
end

section
open Go Go.Ax Go.Proofs.Ytlnohbilfogheaa Go.Proofs.Ytlnohbilfogheaa.rdr
namespace Go.Proofs.Ytlnohbilfogheaa.pof
set_option linter.unusedVariables false
theorem E3ok : Env.Ok Try.prog E3 := envEx_ok (xs := []) ⟨⟨Try.func25, Try.call25⟩, ⟨Try.func60, Try.call60⟩, ⟨Try.func47, Try.call47⟩, ⟨Try.func61, Try.call61⟩, ⟨Try.func62, Try.call62⟩, ⟨Try.func63, Try.call63⟩, ⟨Try.func64, Try.call64⟩, ⟨Try.func22, Try.call22⟩, ⟨Try.func65, Try.call65⟩, trivial⟩ trivial (by kernel_rfl)
theorem to1 {P : Program} {f : Nat} {args : List AV} {S R R' : ASt} {v v' : AV} (h : Call1 P f args S (v, R)) (hv : v = v') (hr : R = R') : Call1 P f args S (v', R') := by
  subst hv; subst hr; exact h
noncomputable def qO (tab : List (Nat × List AV × ASt × (AV × ASt))) : CallT := orC (tabC tab) pkb.qE
theorem qO_ok {tab : List (Nat × List AV × ASt × (AV × ASt))} (h : ∀ e, e ∈ tab → Call1 Try.prog e.1 e.2.1 e.2.2.1 e.2.2.2) : CallsOK Try.prog (sm2 (qO tab)) := onlyC_ok (orC_ok (tabC_ok h) pkb.qE_ok)
theorem at_tab {tab : List (Nat × List AV × ASt × (AV × ASt))} {f j : Nat} {args : List AV} {S : ASt} {r : AV × ASt} (hm : memN f [61, 62, 63, 64, 22, 65] = true) (h : tabC tab f args S = some r) : (M E3 (drawA E3) (sm2 (qO tab)) (j + 1)).call f args S = some r :=
  call_at (onlyC_at hm (orC_l h))
theorem at_eq {tab : List (Nat × List AV × ASt × (AV × ASt))} {j : Nat} {S : ASt} {v w : AV} {a b : List Nat} (h0 : tabC tab 65 [v, w] S = none) (h1 : SlB S v a) (h2 : SlB S w b) (h3 : a.length < 9223372036854775808) :
    (M E3 (drawA E3) (sm2 (qO tab)) (j + 1)).call 65 [v, w] S = some (.bool (decide (a = b)), S) := call_at (onlyC_at rfl (orC_r h0 (eqC_at h1 h2 h3)))
theorem bytesL_U : ∀ l : List Nat, (∀ x, x ∈ l → x < 256) → bytesL (l.map cellU) = some l
  | [], _ => rfl
  | x :: t, h => by
    show (match bytesL (t.map cellU) with | some l => some (x % 256 :: l) | none => none) = _
    rw [bytesL_U t (fun y hy => h y (List.mem_cons_of_mem _ hy))]
    simp only [Nat.mod_eq_of_lt (h x List.mem_cons_self)]
theorem conv {S : ASt} {v : AV} {l : List Nat} (h : SlB S v l) (hb : ∀ x, x ∈ l → x < 256) : aConvert E3 25 9 v S = some (.str l, S) := by
  cases h with
  | nil => kernel_rfl
  | zero => kernel_rfl
  | @row i o n c cs rw _ h1 h2 =>
    have e : aConvert E3 25 9 (.slice (some (i, o)) n c) S = (match S.h.get i with
      | some (.cells cs _) => match takeL cs o n with | some l => (match bytesL l with | some b => some (.str b, S) | none => none) | none => none
      | _ => none) := by kernel_rfl
    rw [e]
    simp only [h1, h2, bytesL_U l hb]
theorem neq_str {S : ASt} (a : List Nat) : still S (aBin E3 .neq 9 (.tmp 44) (.const (.string { data := #[71, 80] })) (.str a) (.str [71, 80])) = some (.bool (!(a == [71, 80])), S) := by
  refine still_of ?_
  show some (AV.bool (!lEq a [71, 80])) = _
  rw [lEq_eq]
theorem eql_int {S : ASt} {t : Nat} {c : Int} (z : Int) {b : Bool} (h : eqF z c = b) : still S (aBin E3 .eql 61 (.tmp t) (.const (.int .i64 c)) (.int .i64 z) (.int .i64 c)) = some (.bool b, S) := by
  subst h
  exact still_of (by kernel_rfl)
theorem app25 : appT E3 25 25 = some (1, 1) := by kernel_rfl
section
variable {l : List Nat}
noncomputable def R0 (l : List Nat) : AO := .cells (l.map cellU) false
noncomputable def R2 (l : List Nat) : AO := .cells (l.map cellU) true
def Ends (l : List Nat) (r : AV × ASt) : Prop := ∃ nx, nx ≤ 69 ∧ r = (resV 3 l, mkSt [(0, R0 l), (3, R2 l)] nx)
def Runs (l : List Nat) : Prop := ∀ B w0 ι w args', SR B w0 ι (mkSt [(0, R0 l)] 1) w → VRs ι [.slice (some (0, 0)) l.length (.atl l.length)] args' →
  (callFunc 25 args').run Try.prog w = .ok (.enter 25 args') w ∧ CallsIn Fence.wide 0 Try.prog 25 args' w fun e w' => ∃ v, Ends l v ∧ Post B w0 ι v e w'
theorem atM {f o o' nx : Nat} {bad bad' : Bool} {ex : List AV} {v v' : AV} (h0 : l ≠ []) (ho : o ≤ l.length) (ho' : o' ≤ l.length) (hex : ∀ c, c ∈ ex → refsV 0 c)
    (h : AtS Try.prog f (.ptr (some (1, 0)) :: ex) (stL l o bad) (v, stL l o' bad')) (hvm : ∀ g : Nat → Nat, g 0 = 3 → mapV g v = v') (hn : 4 < nx) :
    Call1 Try.prog f (.ptr (some (4, 0)) :: ex) (mO (R0 l) (R2 l) (vIn 3 l o) bad nx) (v', mO (R0 l) (R2 l) (vIn 3 l o') bad' (nx + 2)) :=
  to1 (atRow (i := 4) (r := 3) (S := mO (R0 l) (R2 l) (vIn 3 l o) bad nx) h0 ho ho' hex h hvm (by kernel_rfl) (by kernel_rfl) (by decide) hn (Nat.lt_of_succ_lt hn)) rfl (by kernel_rfl)
theorem atP {f o o' nx : Nat} {bad bad' : Bool} {ex : List AV} {v v' : AV} {p c : AO} (h0 : l ≠ []) (ho : o ≤ l.length) (ho' : o' ≤ l.length) (hex : ∀ c, c ∈ ex → refsV 0 c)
    (h : AtS Try.prog f (.ptr (some (1, 0)) :: ex) (stL l o bad) (v, stL l o' bad')) (hvm : ∀ g : Nat → Nat, g 0 = 3 → mapV g v = v') (hn : 4 < nx) :
    Call1 Try.prog f (.ptr (some (4, 0)) :: ex) (mD (R0 l) (R2 l) (vIn 3 l o) bad c p nx) (v', mD (R0 l) (R2 l) (vIn 3 l o') bad' c p (nx + 2)) :=
  to1 (atRow (i := 4) (r := 3) (S := mD (R0 l) (R2 l) (vIn 3 l o) bad c p nx) h0 ho ho' hex h hvm (by kernel_rfl) (by kernel_rfl) (by decide) hn (Nat.lt_of_succ_lt hn)) rfl (by kernel_rfl)
theorem refI (s : Nat) : ∀ c, c ∈ [nI s] → refsV 0 c := fun c hc => by
  simp only [List.mem_cons, List.not_mem_nil, or_false] at hc
  subst hc; simp [nI, refsV]
theorem refN : ∀ c, c ∈ ([] : List AV) → refsV 0 c := fun c hc => by cases hc
theorem bytesF' {S : ASt} {v : AV} {l : List Nat} {m t a s k : Int} (j : Nat) (h1 : 1 ≤ j) (h2 : j < 45) (h : SlB S v l) (hb : l.length < 9223372036854775808) (hm : pkb.mayB k m t a s l.length = false) :
    Call1 Try.prog 22 [pkb.pV k m t a s v] S (.tuple [nilV, nI 2], outS (fun i => S.next + i) [(j, .dead)] S (S.next + 45)) := by
  obtain ⟨v1, o, r, A⟩ := h.ro 0
  refine Call1.frame1 (Q1 := fun q => q = (AV.tuple [.slice none 0 (.known 0), .int .i64 (.ofNat 2)], mkSt [] 2)) (pky.pR h r A) (fun B w0 ι w args' _ hsr hv => run_of_tm pky.Eok (pky.qB_ok (tab := []) (fun e he => by cases he)) (Eq.mp (pky.vcF (pky.qB []) k m t a s v1 o 0 (fun _ => 0) undefA undefA undefA [] [] [] (fun q => q = (AV.tuple [.slice none 0 (.known 0), .int .i64 (.ofNat 2)], mkSt [] 2))) ⟨(pky.may_at (A.toSl (by kernel_rfl)) hb).trans (by rw [hm]), rfl⟩) B w0 ι w args' hsr hv) (by omega) (fun q hq => ?_)
  subst hq
  refine ⟨BackV.eq rfl, by show S.next + 2 ≤ S.next + 45; omega, fun p hp => ?_⟩
  simp only [List.mem_cons, List.not_mem_nil, or_false] at hp
  subst hp
  exact ⟨h1, by show S.next + j < S.next + 45; omega, .inl rfl⟩
theorem bytesO {S : ASt} {k m t : Nat} (h2 : k ≠ 2) (h3 : k ≠ 3) : ∃ A ee R, Call1 Try.prog 22 [pV k m t 0 0 nilV] S (.tuple [A, nI ee], outS (fun j => S.next + j) [(27, R)] S (S.next + 45)) ∧
    (mayO k m t = false ∧ ee = 2 ∨ mayO k m t = true ∧ ee = 0 ∧ k < 256 ∧ A = .slice (some (S.next + 27, 0)) 23 (.rest 1) ∧ R = .cells ((bdO k m t).map cellU) true) := by
  cases hm : mayO k m t with
  | false =>
    exact ⟨_, 2, .dead, bytesF' (l := []) 27 (by decide) (by decide) .nil (by decide) hm, .inl ⟨rfl, rfl⟩⟩
  | true =>
    rcases psz.may_kind hm with h | h | h | h
    · have : k = 1 := Int.ofNat.inj h
      subst this
      refine ⟨_, 0, _, pky.bytes1 (S := S) (v := nilV) (l := []) .nil (by decide) hm, .inr ⟨rfl, rfl, by decide, rfl, ?_⟩⟩
      rw [bdO_U (by decide)]; rfl
    · exact absurd (Int.ofNat.inj h) h2
    · exact absurd (Int.ofNat.inj h) h3
    · have : k = 4 := Int.ofNat.inj h
      subst this
      refine ⟨_, 0, _, pky.bytes4 (S := S) (v := nilV) (l := []) .nil (by decide) hm, .inr ⟨rfl, rfl, by decide, rfl, ?_⟩⟩
      rw [bdO_U (by decide)]; rfl
end
end Go.Proofs.Ytlnohbilfogheaa.pof
end

section
open Go Go.Ax Go.Proofs.Ytlnohbilfogheaa Go.Proofs.Ytlnohbilfogheaa.rdr
namespace Go.Proofs.Ytlnohbilfogheaa.pof
set_option linter.unusedVariables false
section
variable {l : List Nat}
theorem chain19 {o1 o2 o3 o4 k m t : Nat} {b1 b2 b3 b4 : Bool} (e1 : o1 = toO l 0 false 2) (f1 : b1 = toB l 0 false 2) (e2 : o2 = toO l o1 b1 1) (f2 : b2 = toB l o1 b1 1) (e3 : o3 = toO l o2 b2 8) (f3 : b3 = toB l o2 b2 8) (e4 : o4 = toO l o3 b3 8) (f4 : b4 = toB l o3 b3 8)
    (ek : k = numV l o1 b1 1) (em : m = numV l o2 b2 8) (et : t = numV l o3 b3 8) (h : 19 ≤ l.length) : b1 = false ∧ o4 = 19 ∧ b4 = false ∧ k = x0 l ∧ m = x1 l ∧ t = x2 l := by
  obtain ⟨p, q⟩ := to_ok (l := l) (o := 0) (s := 2) (by omega)
  rw [p] at f1; rw [q] at e1; subst f1; subst e1
  obtain ⟨p, q⟩ := to_ok (l := l) (o := 0 + 2) (s := 1) (by omega)
  rw [numV_ok p] at ek
  rw [p] at f2; rw [q] at e2; subst f2; subst e2
  obtain ⟨p, q⟩ := to_ok (l := l) (o := 0 + 2 + 1) (s := 8) (by omega)
  rw [numV_ok p] at em
  rw [p] at f3; rw [q] at e3; subst f3; subst e3
  obtain ⟨p, q⟩ := to_ok (l := l) (o := 0 + 2 + 1 + 8) (s := 8) (by omega)
  rw [numV_ok p] at et
  rw [p] at f4; rw [q] at e4
  exact ⟨rfl, e4, f4, ek, em, et⟩
theorem chainB {o1 o2 o3 o4 : Nat} {b1 b2 b3 b4 : Bool} (e1 : o1 = toO l 0 false 2) (f1 : b1 = toB l 0 false 2) (e2 : o2 = toO l o1 b1 1) (f2 : b2 = toB l o1 b1 1) (e3 : o3 = toO l o2 b2 8) (f3 : b3 = toB l o2 b2 8) (e4 : o4 = toO l o3 b3 8) (f4 : b4 = toB l o3 b3 8) (h : b4 = false) : 19 ≤ l.length := by
  rw [f4] at h
  obtain ⟨p4, q4, _⟩ := to_inv h
  rw [f3] at p4
  obtain ⟨p3, q3, r3⟩ := to_inv p4
  rw [f2] at p3
  obtain ⟨p2, q2, r2⟩ := to_inv p3
  rw [f1] at p2
  obtain ⟨p1, q1, r1⟩ := to_inv p2
  omega
theorem good_mark (h : good l) : (l.drop 0).take 2 = [71, 80] := by
  rcases h with ⟨_, _, _, _, h⟩ | ⟨_, _, _, h⟩ | ⟨_, _, _, h⟩
  · obtain ⟨r, e⟩ := bdO_hd (k := x0 l) (m := x1 l) (t := x2 l)
    rw [← h, e]; rfl
  · obtain ⟨r, e⟩ := bdA_hd (m := x1 l) (t := x2 l) (a := x3 l)
    rw [← h, e]; rfl
  · obtain ⟨r, e⟩ := bdD_hd (m := x1 l) (t := x2 l) (a := x3 l) (s := x4 l) (l := plD l)
    rw [← h, e]; rfl
theorem good_len (h : good l) : 23 ≤ l.length := by
  rcases h with ⟨_, _, h, _⟩ | ⟨_, h, _⟩ | ⟨_, h, _⟩ <;> omega
theorem fail_ends {nx : Nat} (hn : nx ≤ 69) (h : ¬ good l) : Ends l (.tuple [zP, nI 4], mkSt [(0, R0 l), (3, R2 l)] nx) := ⟨nx, hn, by unfold resV; rw [if_neg h]⟩
theorem good_ends {nx : Nat} {v : AV} (hn : nx ≤ 69) (h : good l) (hv : v = pkV 3 l) : Ends l (.tuple [v, nI 0], mkSt [(0, R0 l), (3, R2 l)] nx) := ⟨nx, hn, by subst hv; unfold resV; rw [if_pos h]⟩
def kP (l : List Nat) : Nat := numV l (toO l 0 false 2) (toB l 0 false 2) 1
theorem nn {a b : Nat} (h : eqF (.ofNat a) (.ofNat b) = true) : a = b := by
  rw [eqF_eq] at h
  exact Int.ofNat.inj (of_decide_eq_true h)
theorem nf {a b : Nat} (h : a ≠ b) : eqF (.ofNat a) (.ofNat b) = false := by
  rw [eqF_eq]
  exact decide_eq_false fun g => h (Int.ofNat.inj g)
theorem mark_b {b : Bool} {x : List Nat} (h : (!((if b = true then [] else x) == [71, 80])) = false) : b = false ∧ x = [71, 80] := by
  cases b with
  | true => cases h
  | false =>
    simp at h
    exact ⟨rfl, h⟩
theorem taken (x : List Nat) {n : Nat} (h : x.length = n) : takeL (x.map cellU) 0 n = some (x.map cellU) := by subst h; exact takeU
theorem runO (h0 : l ≠ []) (hB : ∀ x, x ∈ l → x < 256) (hl : l.length < 1099511627776) (k2 : kP l ≠ 2) (k3 : kP l ≠ 3) : Runs l := by
  have hp : 0 < l.length := List.length_pos_iff.2 h0
  obtain ⟨o1, e1⟩ : ∃ x, x = toO l 0 false 2 := ⟨_, rfl⟩
  obtain ⟨b1, f1⟩ : ∃ x, x = toB l 0 false 2 := ⟨_, rfl⟩
  obtain ⟨o2, e2⟩ : ∃ x, x = toO l o1 b1 1 := ⟨_, rfl⟩
  obtain ⟨b2, f2⟩ : ∃ x, x = toB l o1 b1 1 := ⟨_, rfl⟩
  obtain ⟨o3, e3⟩ : ∃ x, x = toO l o2 b2 8 := ⟨_, rfl⟩
  obtain ⟨b3, f3⟩ : ∃ x, x = toB l o2 b2 8 := ⟨_, rfl⟩
  obtain ⟨o4, e4⟩ : ∃ x, x = toO l o3 b3 8 := ⟨_, rfl⟩
  obtain ⟨b4, f4⟩ : ∃ x, x = toB l o3 b3 8 := ⟨_, rfl⟩
  obtain ⟨o5, e5⟩ : ∃ x, x = toO l o4 b4 4 := ⟨_, rfl⟩
  obtain ⟨b5, f5⟩ : ∃ x, x = toB l o4 b4 4 := ⟨_, rfl⟩
  have l1 : o1 ≤ l.length := e1 ▸ toO_le (Nat.zero_le _)
  have l2 : o2 ≤ l.length := e2 ▸ toO_le l1
  have l3 : o3 ≤ l.length := e3 ▸ toO_le l2
  have l4 : o4 ≤ l.length := e4 ▸ toO_le l3
  have l5 : o5 ≤ l.length := e5 ▸ toO_le l4
  obtain ⟨k, ek⟩ : ∃ x, x = numV l o1 b1 1 := ⟨_, rfl⟩
  obtain ⟨m, em⟩ : ∃ x, x = numV l o2 b2 8 := ⟨_, rfl⟩
  obtain ⟨t, et⟩ : ∃ x, x = numV l o3 b3 8 := ⟨_, rfl⟩
  have kl : k < 256 := by rw [ek]; exact numV_lt (k := 1) hB (by decide)
  have kne2 : k ≠ 2 := by rw [ek, e1, f1]; exact k2
  have kne3 : k ≠ 3 := by rw [ek, e1, f1]; exact k3
  have hw : wrapF .i64 (.ofNat k) = .ofNat k := wrap_nat (by omega)
  have q2 : eqF (wrapF .i64 (.ofNat k)) (.ofNat 2) = false := by rw [hw]; exact nf kne2
  have q3 : eqF (wrapF .i64 (.ofNat k)) (.ofNat 3) = false := by rw [hw]; exact nf kne3
  -- the calls
  have c0 : Call1 Try.prog 61 [.ptr (some (4, 0)), nI 2] (mO (R0 l) (R2 l) (vIn 3 l 0) false 5) (cutR 3 l 0 false 2, mO (R0 l) (R2 l) (vIn 3 l o1) b1 7) := by
    rw [e1, f1]; exact atM h0 (Nat.zero_le _) (toO_le (Nat.zero_le _)) (refI 2) (bytesRun (Nat.zero_le _)) (cut_map (Nat.zero_le _)) (by decide)
  have c1 : Call1 Try.prog 62 [.ptr (some (4, 0)), nI 1] (mO (R0 l) (R2 l) (vIn 3 l o1) b1 7) (.int .u64 (.ofNat k), mO (R0 l) (R2 l) (vIn 3 l o2) b2 9) := by
    rw [ek, e2, f2]; exact atM h0 l1 (toO_le l1) (refI 1) (num1 l1 hB) (fun _ _ => rfl) (by decide)
  have c2 : Call1 Try.prog 62 [.ptr (some (4, 0)), nI 8] (mO (R0 l) (R2 l) (vIn 3 l o2) b2 9) (.int .u64 (.ofNat m), mO (R0 l) (R2 l) (vIn 3 l o3) b3 11) := by
    rw [em, e3, f3]; exact atM h0 l2 (toO_le l2) (refI 8) (num8 l2 hB) (fun _ _ => rfl) (by decide)
  have c3 : Call1 Try.prog 62 [.ptr (some (4, 0)), nI 8] (mO (R0 l) (R2 l) (vIn 3 l o3) b3 11) (.int .u64 (.ofNat t), mO (R0 l) (R2 l) (vIn 3 l o4) b4 13) := by
    rw [et, e4, f4]; exact atM h0 l3 (toO_le l3) (refI 8) (num8 l3 hB) (fun _ _ => rfl) (by decide)
  obtain ⟨P, eP⟩ : ∃ P, P = rdr.pO (wrapF .i64 (.ofNat k)) (.ofNat m) (.ofNat t) 0 0 nilV := ⟨_, rfl⟩
  have c4 : Call1 Try.prog 61 [.ptr (some (4, 0)), nI 4] (mD (R0 l) (R2 l) (vIn 3 l o4) b4 z6 P 14) (cutR 3 l o4 b4 4, mD (R0 l) (R2 l) (vIn 3 l o5) b5 z6 P 16) := by
    rw [e5, f5]; exact atP h0 l4 (toO_le l4) (refI 4) (bytesRun l4) (cut_map l4) (by decide)
  have c5 : Call1 Try.prog 64 [.ptr (some (4, 0))] (mD (R0 l) (R2 l) (vIn 3 l o5) b5 z6 P 16) (nI (endN l o5 b5), mD (R0 l) (R2 l) (vIn 3 l o5) b5 z6 P 18) :=
    atP h0 l5 l5 refN (endRun l5) (fun _ _ => rfl) (by decide)
  obtain ⟨A, ee, R, cB, hA⟩ := bytesO (S := mD (R0 l) (R2 l) (vIn 3 l o5) b5 z6 P 18) (m := m) (t := t) kne2 kne3
  have c6 : Call1 Try.prog 22 [.agg [.int .i64 (wrapF .i64 (.ofNat k)), .int .u64 (.ofNat m), .int .u64 (.ofNat t), .int .u64 (.ofNat 0), .int .u64 (.ofNat 0), nilV]] (mD (R0 l) (R2 l) (vIn 3 l o5) b5 z6 P 18)
      (.tuple [A, nI ee], mkSt [(0, R0 l), (1, z6), (2, .cells [] true), (3, R2 l), (4, rd (vIn 3 l o5) b5), (13, P), (45, R)] 63) := by
    rw [hw]; exact to1 cB rfl (by kernel_rfl)
  have hf : ∀ S : ASt, S.h.get 0 = some (R0 l) → aFirst S 1 l.length (.slice (some (0, 0)) l.length (.atl l.length)) = some (l.map cellU) := fun S h => first_at h (by rw [Nat.mul_one]; exact takeU)
  -- good or not
  have hg : good l ↔ (b1 = false ∧ (l.drop 0).take 2 = [71, 80]) ∧ endN l o5 b5 = 0 ∧ mayO k m t = true ∧ bdO k m t = l := by
    constructor
    · intro g
      have hl23 := good_len g
      obtain ⟨hb1, ho4, hb4, hk, hm, ht⟩ := chain19 e1 f1 e2 f2 e3 f3 e4 f4 ek em et (by omega)
      refine ⟨⟨hb1, good_mark g⟩, ?_⟩
      rcases g with ⟨_, _, g1, g2, g3⟩ | ⟨g1, _⟩ | ⟨g1, _⟩
      · obtain ⟨p, q⟩ := to_ok (l := l) (o := 19) (s := 4) (by omega)
        rw [ho4, hb4, p] at f5
        rw [ho4, hb4, q] at e5
        refine ⟨?_, by rw [hk, hm, ht]; exact g2, by rw [hk, hm, ht]; exact g3⟩
        rw [f5, show o5 = l.length by omega]; exact end_ok
      · exact absurd (hk.trans g1) kne3
      · exact absurd (hk.trans g1) kne2
    · rintro ⟨_, he, g2, g3⟩
      obtain ⟨h1, h2⟩ := end_inv l5 he
      rw [f5] at h1
      obtain ⟨h3, h4, h5⟩ := to_inv h1
      obtain ⟨hb1, ho4, hb4, hk, hm, ht⟩ := chain19 e1 f1 e2 f2 e3 f3 e4 f4 ek em et (chainB e1 f1 e2 f2 e3 f3 e4 f4 h3)
      rw [hk, hm, ht] at g2 g3
      exact .inl ⟨hk ▸ kne2, hk ▸ kne3, by omega, g2, g3⟩
  have hq := qO_ok (tok c0 (tok c1 (tok c2 (tok c3 (tok c4 (tok c5 (tok c6 tok0)))))))
  have hv0 : vIn 3 l 0 = .slice (some (3, 0)) l.length (.rest 1) := by
    rcases forms2 3 (Nat.zero_le l.length) with ⟨h, _⟩ | ⟨_, h, _⟩ | ⟨_, _, _, e⟩
    · exact absurd h h0
    · omega
    · exact e
  subst eP
  rw [hv0] at hq
  refine run_of_tm E3ok hq (Eq.mp (vcO (qO _) l.length (endN l o5 b5) ee (R0 l) (R2 l) R (!((if b1 = true then [] else (l.drop 0).take 2) == [71, 80])) (decide (bdO k m t = l)) (if b1 = true then [] else (l.drop 0).take 2) (cutR 3 l 0 false 2) (cutR 3 l o4 b4 4) A k m t (vIn 3 l 0) (vIn 3 l o1) (vIn 3 l o2) (vIn 3 l o3) (vIn 3 l o4) (vIn 3 l o5) b1 b2 b3 b4 b5 (Ends l))
    ⟨?_, at_tab rfl (tabC_hd ..), ?_, at_tab rfl ((tabC_tln rfl).trans (tabC_hd ..)), at_tab rfl ((tabC_tln rfl).trans ((tabC_tln rfl).trans (tabC_hd ..))), at_tab rfl ((tabC_tln rfl).trans ((tabC_tln rfl).trans ((tabC_tln rfl).trans (tabC_hd ..)))),
     eql_int _ q2, eql_int _ q3, eql_int _ q2, at_tab rfl ((tabC_tln rfl).trans ((tabC_tln rfl).trans ((tabC_tln rfl).trans ((tabC_tln rfl).trans (tabC_hd ..))))), neq_str _, ifB_mk (fun h1 => ?_) fun h1 =>
     ⟨at_tab rfl ((tabC_tln rfl).trans ((tabC_tln rfl).trans ((tabC_tln rfl).trans ((tabC_tln rfl).trans ((tabC_tln rfl).trans (tabC_hd ..)))))), ifB_mk (fun h2 => ?_) fun h2 =>
     ⟨at_tab rfl ((tabC_tln rfl).trans ((tabC_tln rfl).trans ((tabC_tln rfl).trans ((tabC_tln rfl).trans ((tabC_tln rfl).trans ((tabC_tln rfl).trans (tabC_hd ..))))))), ifB_mk (fun h3 => ?_) fun h3 => ⟨?_, ifB_mk (fun h4 => ?_) fun h4 => ?_⟩⟩⟩⟩)
  · exact (append_zero_at app25 (n := l.length) (k := 2) (cs := []) (rw := true) (by kernel_rfl) (hf _ (by kernel_rfl)) (by kernel_rfl) hp (by omega) (by omega)).trans (by kernel_rfl)
  · subst f1
    refine conv (cut_sl (rw := true) (by kernel_rfl) (Nat.zero_le _)) ?_
    intro x hx
    split at hx
    · cases hx
    · exact hB x (List.mem_of_mem_drop (List.mem_of_mem_take hx))
  · refine fail_ends (by decide) fun g => ?_
    obtain ⟨⟨p, q⟩, _⟩ := hg.1 g
    rw [p, q] at h1; cases h1
  · refine fail_ends (by decide) fun g => ?_
    obtain ⟨_, p, _⟩ := hg.1 g
    rw [p] at h2; cases h2
  · refine fail_ends (by decide) fun g => ?_
    obtain ⟨_, _, p, _⟩ := hg.1 g
    rcases hA with ⟨q, _⟩ | ⟨_, q, _⟩
    · rw [p] at q; cases q
    · rw [q] at h3; cases h3
  · rcases hA with ⟨_, q⟩ | ⟨q1, q2, q3, q4, q5⟩
    · rw [q] at h3; cases h3
    · subst q4; subst q5
      exact at_eq rfl (SlB.row (cs := (bdO k m t).map cellU) (rw := true) (by kernel_rfl) (taken _ bdO_len)) (SlB.row (cs := l.map cellU) (rw := false) (by kernel_rfl) takeU) (by rw [bdO_len]; decide)
  · rcases hA with ⟨_, q⟩ | ⟨q1, q2, q3, q4, q5⟩
    · rw [q] at h3; cases h3
    · have he : endN l o5 b5 = 0 := nn (by simpa using h2)
      have g := hg.2 ⟨mark_b h1, he, q1, of_decide_eq_true h4⟩
      refine good_ends (by decide) g ?_
      obtain ⟨hb1, ho4, hb4, hk, hm, ht⟩ := chain19 e1 f1 e2 f2 e3 f3 e4 f4 ek em et (by have := good_len g; omega)
      unfold pkV
      rw [hw, ← hk, ← hm, ← ht, beq_f kne2, beq_f kne3]
      rfl
  · refine fail_ends (by decide) fun g => ?_
    obtain ⟨_, _, _, p⟩ := hg.1 g
    rw [decide_eq_true p] at h4; cases h4
end
end Go.Proofs.Ytlnohbilfogheaa.pof
end

section
open Go Go.Ax Go.Proofs.Ytlnohbilfogheaa Go.Proofs.Ytlnohbilfogheaa.rdr
namespace Go.Proofs.Ytlnohbilfogheaa.pof
set_option linter.unusedVariables false
section
variable {l : List Nat}
theorem bytesA {S : ASt} {m t a : Nat} : ∃ A ee R, Call1 Try.prog 22 [pV 3 m t a 0 nilV] S (.tuple [A, nI ee], outS (fun j => S.next + j) [(29, R)] S (S.next + 45)) ∧
    (mayA m t a = false ∧ ee = 2 ∨ mayA m t a = true ∧ ee = 0 ∧ A = .slice (some (S.next + 29, 0)) 31 (.rest 1) ∧ R = .cells ((bdA m t a).map cellU) true) := by
  cases hm : mayA m t a with
  | false => exact ⟨_, 2, .dead, bytesF' (l := []) 29 (by decide) (by decide) .nil (by decide) hm, .inl ⟨rfl, rfl⟩⟩
  | true =>
    refine ⟨_, 0, _, pky.bytes3 (S := S) (v := nilV) (l := []) .nil (by decide) hm, .inr ⟨rfl, rfl, rfl, ?_⟩⟩
    rw [bdA_U]; rfl
theorem bytesD {S : ASt} {m t a s : Nat} {v : AV} {x : List Nat} (h : SlB S v x) (hB : ∀ y, y ∈ x → y < 256) (hx : x.length < 9223372036854775808) : ∃ A ee R, Call1 Try.prog 22 [pV 2 m t a s v] S (.tuple [A, nI ee], outS (fun j => S.next + j) [(44, R)] S (S.next + 45)) ∧
    (mayD m t a s x.length = false ∧ ee = 2 ∨ mayD m t a s x.length = true ∧ ee = 0 ∧ A = .slice (some (S.next + 44, 0)) (37 + x.length + 4) (.rest 1) ∧ R = .cells ((bdD m t a s x).map cellU) true) := by
  cases hm : mayD m t a s x.length with
  | false => exact ⟨_, 2, .dead, bytesF' 44 (by decide) (by decide) h hx hm, .inl ⟨rfl, rfl⟩⟩
  | true =>
    refine ⟨_, 0, _, pky.bytes2 (S := S) h hx hm, .inr ⟨rfl, rfl, rfl, ?_⟩⟩
    rw [bdD_U hB]; rfl
theorem cutR_ok {r o s : Nat} {bad : Bool} (hb : toB l o bad s = false) (ho : o < l.length) : cutR r l o bad s = .slice (some (r, o)) s (.known s) := by
  unfold cutR cutW
  rw [hb]
  rcases forms (Nat.le_of_lt ho) with ⟨e, h, _⟩ | ⟨_, h, _⟩ | ⟨_, _, _, e⟩
  · subst e; simp at ho
  · omega
  · rw [cond_false, e s]; rfl
def Sh (W : AV) : Prop := W = nilV ∨ W = .slice0 ∨ ∃ r o s, W = .slice (some (r, o)) s (.known s)
theorem cut_Sh {r o s : Nat} {bad : Bool} (ho : o ≤ l.length) : Sh (cutR r l o bad s) := by
  rcases cut_forms (l := l) (o := o) (bad := bad) (s := s) ho with ⟨_, e⟩ | ⟨_, e⟩ | ⟨_, e⟩
  · exact .inl (e r)
  · exact .inr (.inl (e r))
  · exact .inr (.inr ⟨r, o, s, e r⟩)
theorem runA (h0 : l ≠ []) (hB : ∀ x, x ∈ l → x < 256) (hl : l.length < 1099511627776) (hk : kP l = 3) : Runs l := by
  have hp : 0 < l.length := List.length_pos_iff.2 h0
  obtain ⟨o1, e1⟩ : ∃ x, x = toO l 0 false 2 := ⟨_, rfl⟩
  obtain ⟨b1, f1⟩ : ∃ x, x = toB l 0 false 2 := ⟨_, rfl⟩
  obtain ⟨o2, e2⟩ : ∃ x, x = toO l o1 b1 1 := ⟨_, rfl⟩
  obtain ⟨b2, f2⟩ : ∃ x, x = toB l o1 b1 1 := ⟨_, rfl⟩
  obtain ⟨o3, e3⟩ : ∃ x, x = toO l o2 b2 8 := ⟨_, rfl⟩
  obtain ⟨b3, f3⟩ : ∃ x, x = toB l o2 b2 8 := ⟨_, rfl⟩
  obtain ⟨o4, e4⟩ : ∃ x, x = toO l o3 b3 8 := ⟨_, rfl⟩
  obtain ⟨b4, f4⟩ : ∃ x, x = toB l o3 b3 8 := ⟨_, rfl⟩
  obtain ⟨o5, e5⟩ : ∃ x, x = toO l o4 b4 8 := ⟨_, rfl⟩
  obtain ⟨b5, f5⟩ : ∃ x, x = toB l o4 b4 8 := ⟨_, rfl⟩
  obtain ⟨o6, e6⟩ : ∃ x, x = toO l o5 b5 4 := ⟨_, rfl⟩
  obtain ⟨b6, f6⟩ : ∃ x, x = toB l o5 b5 4 := ⟨_, rfl⟩
  have l1 : o1 ≤ l.length := e1 ▸ toO_le (Nat.zero_le _)
  have l2 : o2 ≤ l.length := e2 ▸ toO_le l1
  have l3 : o3 ≤ l.length := e3 ▸ toO_le l2
  have l4 : o4 ≤ l.length := e4 ▸ toO_le l3
  have l5 : o5 ≤ l.length := e5 ▸ toO_le l4
  have l6 : o6 ≤ l.length := e6 ▸ toO_le l5
  obtain ⟨k, ek⟩ : ∃ x, x = numV l o1 b1 1 := ⟨_, rfl⟩
  obtain ⟨m, em⟩ : ∃ x, x = numV l o2 b2 8 := ⟨_, rfl⟩
  obtain ⟨t, et⟩ : ∃ x, x = numV l o3 b3 8 := ⟨_, rfl⟩
  obtain ⟨a, ea⟩ : ∃ x, x = numV l o4 b4 8 := ⟨_, rfl⟩
  have kk : k = 3 := by rw [ek, e1, f1]; exact hk
  have hw : wrapF .i64 (.ofNat k) = .ofNat k := wrap_nat (by omega)
  have q2 : eqF (wrapF .i64 (.ofNat k)) (.ofNat 2) = false := by rw [hw, kk]; rfl
  have q3 : eqF (wrapF .i64 (.ofNat k)) (.ofNat 3) = true := by rw [hw, kk]; rfl
  have c0 : Call1 Try.prog 61 [.ptr (some (4, 0)), nI 2] (mO (R0 l) (R2 l) (vIn 3 l 0) false 5) (cutR 3 l 0 false 2, mO (R0 l) (R2 l) (vIn 3 l o1) b1 7) := by
    rw [e1, f1]; exact atM h0 (Nat.zero_le _) (toO_le (Nat.zero_le _)) (refI 2) (bytesRun (Nat.zero_le _)) (cut_map (Nat.zero_le _)) (by decide)
  have c1 : Call1 Try.prog 62 [.ptr (some (4, 0)), nI 1] (mO (R0 l) (R2 l) (vIn 3 l o1) b1 7) (.int .u64 (.ofNat k), mO (R0 l) (R2 l) (vIn 3 l o2) b2 9) := by
    rw [ek, e2, f2]; exact atM h0 l1 (toO_le l1) (refI 1) (num1 l1 hB) (fun _ _ => rfl) (by decide)
  have c2 : Call1 Try.prog 62 [.ptr (some (4, 0)), nI 8] (mO (R0 l) (R2 l) (vIn 3 l o2) b2 9) (.int .u64 (.ofNat m), mO (R0 l) (R2 l) (vIn 3 l o3) b3 11) := by
    rw [em, e3, f3]; exact atM h0 l2 (toO_le l2) (refI 8) (num8 l2 hB) (fun _ _ => rfl) (by decide)
  have c3 : Call1 Try.prog 62 [.ptr (some (4, 0)), nI 8] (mO (R0 l) (R2 l) (vIn 3 l o3) b3 11) (.int .u64 (.ofNat t), mO (R0 l) (R2 l) (vIn 3 l o4) b4 13) := by
    rw [et, e4, f4]; exact atM h0 l3 (toO_le l3) (refI 8) (num8 l3 hB) (fun _ _ => rfl) (by decide)
  have c4 : Call1 Try.prog 62 [.ptr (some (4, 0)), nI 8] (mD (R0 l) (R2 l) (vIn 3 l o4) b4 z6 (rdr.pO (wrapF .i64 (.ofNat k)) (.ofNat m) (.ofNat t) 0 0 nilV) 14) (.int .u64 (.ofNat a), mD (R0 l) (R2 l) (vIn 3 l o5) b5 z6 (rdr.pO (wrapF .i64 (.ofNat k)) (.ofNat m) (.ofNat t) 0 0 nilV) 16) := by
    rw [ea, e5, f5]; exact atP h0 l4 (toO_le l4) (refI 8) (num8 l4 hB) (fun _ _ => rfl) (by decide)
  have c7 : Call1 Try.prog 61 [.ptr (some (4, 0)), nI 4] (mD (R0 l) (R2 l) (vIn 3 l o5) b5 z6 (rdr.pO (wrapF .i64 (.ofNat k)) (.ofNat m) (.ofNat t) (.ofNat a) 0 nilV) 16) (cutR 3 l o5 b5 4, mD (R0 l) (R2 l) (vIn 3 l o6) b6 z6 (rdr.pO (wrapF .i64 (.ofNat k)) (.ofNat m) (.ofNat t) (.ofNat a) 0 nilV) 18) := by
    rw [e6, f6]; exact atP h0 l5 (toO_le l5) (refI 4) (bytesRun l5) (cut_map l5) (by decide)
  have c8 : Call1 Try.prog 64 [.ptr (some (4, 0))] (mD (R0 l) (R2 l) (vIn 3 l o6) b6 z6 (rdr.pO (wrapF .i64 (.ofNat k)) (.ofNat m) (.ofNat t) (.ofNat a) 0 nilV) 18) (nI (endN l o6 b6), mD (R0 l) (R2 l) (vIn 3 l o6) b6 z6 (rdr.pO (wrapF .i64 (.ofNat k)) (.ofNat m) (.ofNat t) (.ofNat a) 0 nilV) 20) := atP h0 l6 l6 refN (endRun l6) (fun _ _ => rfl) (by decide)
  obtain ⟨A, ee, R, cB, hA⟩ := bytesA (S := mD (R0 l) (R2 l) (vIn 3 l o6) b6 z6 (rdr.pO (wrapF .i64 (.ofNat k)) (.ofNat m) (.ofNat t) (.ofNat a) 0 nilV) 20) (m := m) (t := t) (a := a)
  have c9 : Call1 Try.prog 22 [.agg [.int .i64 (wrapF .i64 (.ofNat k)), .int .u64 (.ofNat m), .int .u64 (.ofNat t), .int .u64 (.ofNat a), .int .u64 (.ofNat 0), nilV]] (mD (R0 l) (R2 l) (vIn 3 l o6) b6 z6 (rdr.pO (wrapF .i64 (.ofNat k)) (.ofNat m) (.ofNat t) (.ofNat a) 0 nilV) 20)
      (.tuple [A, nI ee], mkSt [(0, R0 l), (1, z6), (2, .cells [] true), (3, R2 l), (4, rd (vIn 3 l o6) b6), (13, (rdr.pO (wrapF .i64 (.ofNat k)) (.ofNat m) (.ofNat t) (.ofNat a) 0 nilV)), (49, R)] 65) := by
    rw [hw, kk] at cB ⊢; exact to1 cB rfl (by kernel_rfl)
  have hf : ∀ S : ASt, S.h.get 0 = some (R0 l) → aFirst S 1 l.length (.slice (some (0, 0)) l.length (.atl l.length)) = some (l.map cellU) := fun S h => first_at h (by rw [Nat.mul_one]; exact takeU)
  have hgc : good l → b1 = false ∧ m = x1 l ∧ t = x2 l ∧ a = x3 l ∧ endN l o6 b6 = 0 := fun g => by
    obtain ⟨hb1, ho4, hb4, hk', hm, ht⟩ := chain19 e1 f1 e2 f2 e3 f3 e4 f4 ek em et (by have := good_len g; omega)
    have hL : l.length = 31 := by
      rcases g with ⟨_, q, _⟩ | ⟨_, q, _⟩ | ⟨q, _⟩
      · exact absurd (hk'.symm.trans kk) q
      · exact q
      · exact absurd ((hk'.symm.trans kk).symm.trans q) (by decide)
    rw [ho4, hb4] at e5 f5 ea
    obtain ⟨p, q⟩ := to_ok (l := l) (o := 19) (s := 8) (by omega)
    rw [p] at f5; rw [q] at e5; rw [numV_ok p] at ea; subst f5; subst e5
    obtain ⟨p, q⟩ := to_ok (l := l) (o := 19 + 8) (s := 4) (by omega)
    rw [p] at f6; rw [q] at e6
    exact ⟨hb1, hm, ht, ea, by rw [f6, show o6 = l.length by omega]; exact end_ok⟩
  have hg : good l ↔ (b1 = false ∧ (l.drop 0).take 2 = [71, 80]) ∧ endN l o6 b6 = 0 ∧ mayA m t a = true ∧ bdA m t a = l := by
    constructor
    · intro g
      obtain ⟨h1, h2, h3, h4, h5⟩ := hgc g
      refine ⟨⟨h1, good_mark g⟩, h5, ?_⟩
      obtain ⟨_, _, _, hk', _, _⟩ := chain19 e1 f1 e2 f2 e3 f3 e4 f4 ek em et (by have := good_len g; omega)
      rcases g with ⟨_, q, _⟩ | ⟨_, q1, q2, q3⟩ | ⟨q, _⟩
      · exact absurd (hk'.symm.trans kk) q
      · rw [h2, h3, h4]; exact ⟨q2, q3⟩
      · exact absurd ((hk'.symm.trans kk).symm.trans q) (by decide)
    · rintro ⟨_, he, g2, g3⟩
      obtain ⟨h1, h2⟩ := end_inv l6 he
      rw [f6] at h1
      obtain ⟨h3, h4, h5⟩ := to_inv h1
      rw [f5] at h3
      obtain ⟨h6, h7, h8⟩ := to_inv h3
      have hn := numV_ok h3
      obtain ⟨hb1, ho4, hb4, hk', hm, ht⟩ := chain19 e1 f1 e2 f2 e3 f3 e4 f4 ek em et (chainB e1 f1 e2 f2 e3 f3 e4 f4 h6)
      have ha : a = x3 l := by rw [ea, hn, ho4]; rfl
      rw [hm, ht, ha] at g2 g3
      exact .inr (.inl ⟨hk'.symm.trans kk, by omega, g2, g3⟩)
  have hq := qO_ok (tok c0 (tok c1 (tok c2 (tok c3 (tok c4 (tok c7 (tok c8 (tok c9 tok0))))))))
  have hv0 : vIn 3 l 0 = .slice (some (3, 0)) l.length (.rest 1) := by
    rcases forms2 3 (Nat.zero_le l.length) with ⟨h, _⟩ | ⟨_, h, _⟩ | ⟨_, _, _, e⟩
    · exact absurd h h0
    · omega
    · exact e
  rw [hv0] at hq
  refine run_of_tm E3ok hq (Eq.mp (vcA (qO _) l.length (endN l o6 b6) ee (R0 l) (R2 l) R (!((if b1 = true then [] else (l.drop 0).take 2) == [71, 80])) (decide (bdA m t a = l)) (if b1 = true then [] else (l.drop 0).take 2) (cutR 3 l 0 false 2) (cutR 3 l o5 b5 4) A k m t a (vIn 3 l 0) (vIn 3 l o1) (vIn 3 l o2) (vIn 3 l o3) (vIn 3 l o4) (vIn 3 l o5) (vIn 3 l o6) b1 b2 b3 b4 b5 b6 (Ends l))
    ⟨?_, at_tab rfl (tabC_hd ..), ?_, at_tab rfl ((tabC_tln rfl).trans (tabC_hd ..)), at_tab rfl ((tabC_tln rfl).trans ((tabC_tln rfl).trans (tabC_hd ..))), at_tab rfl ((tabC_tln rfl).trans ((tabC_tln rfl).trans ((tabC_tln rfl).trans (tabC_hd ..)))), eql_int _ q2, eql_int _ q3, at_tab rfl ((tabC_tln rfl).trans ((tabC_tln rfl).trans ((tabC_tln rfl).trans ((tabC_tln rfl).trans (tabC_hd ..))))), eql_int _ q2, at_tab rfl ((tabC_tln rfl).trans ((tabC_tln rfl).trans ((tabC_tln rfl).trans ((tabC_tln rfl).trans ((tabC_tln rfl).trans (tabC_hd ..)))))), neq_str _, ifB_mk (fun h1 => ?_) fun h1 =>
     ⟨at_tab rfl ((tabC_tln rfl).trans ((tabC_tln rfl).trans ((tabC_tln rfl).trans ((tabC_tln rfl).trans ((tabC_tln rfl).trans ((tabC_tln rfl).trans (tabC_hd ..))))))), ifB_mk (fun h2 => ?_) fun h2 =>
     ⟨at_tab rfl ((tabC_tln rfl).trans ((tabC_tln rfl).trans ((tabC_tln rfl).trans ((tabC_tln rfl).trans ((tabC_tln rfl).trans ((tabC_tln rfl).trans ((tabC_tln rfl).trans (tabC_hd ..)))))))), ifB_mk (fun h3 => ?_) fun h3 => ⟨?_, ifB_mk (fun h4 => ?_) fun h4 => ?_⟩⟩⟩⟩)
  · exact (append_zero_at app25 (n := l.length) (k := 2) (cs := []) (rw := true) (by kernel_rfl) (hf _ (by kernel_rfl)) (by kernel_rfl) hp (by omega) (by omega)).trans (by kernel_rfl)
  · subst f1
    refine conv (cut_sl (rw := true) (by kernel_rfl) (Nat.zero_le _)) ?_
    intro x hx
    split at hx
    · cases hx
    · exact hB x (List.mem_of_mem_drop (List.mem_of_mem_take hx))
  · refine fail_ends (by decide) fun g => ?_
    obtain ⟨⟨p, q⟩, _⟩ := hg.1 g
    rw [p, q] at h1; cases h1
  · refine fail_ends (by decide) fun g => ?_
    obtain ⟨_, p, _⟩ := hg.1 g
    rw [p] at h2; cases h2
  · refine fail_ends (by decide) fun g => ?_
    obtain ⟨_, _, p, _⟩ := hg.1 g
    rcases hA with ⟨q, _⟩ | ⟨_, q, _⟩
    · rw [p] at q; cases q
    · rw [q] at h3; cases h3
  · rcases hA with ⟨_, q⟩ | ⟨q1, q2', q4, q5⟩
    · rw [q] at h3; cases h3
    · subst q4; subst q5
      exact at_eq rfl (SlB.row (cs := (bdA m t a).map cellU) (rw := true) (by kernel_rfl) (taken _ bdA_len)) (SlB.row (cs := l.map cellU) (rw := false) (by kernel_rfl) takeU) (by rw [bdA_len]; decide)
  · rcases hA with ⟨_, q⟩ | ⟨q1, q2', q4, q5⟩
    · rw [q] at h3; cases h3
    · have he : endN l o6 b6 = 0 := nn (by simpa using h2)
      have g := hg.2 ⟨mark_b h1, he, q1, of_decide_eq_true h4⟩
      refine good_ends (by decide) g ?_
      obtain ⟨_, _, _, hk', _, _⟩ := chain19 e1 f1 e2 f2 e3 f3 e4 f4 ek em et (by have := good_len g; omega)
      obtain ⟨_, h2, h3, h4, _⟩ := hgc g
      unfold pkV
      rw [hw, ← hk', kk, h2, h3, h4]
      rfl
  · refine fail_ends (by decide) fun g => ?_
    obtain ⟨_, _, _, p⟩ := hg.1 g
    rw [decide_eq_true p] at h4; cases h4
theorem runD (h0 : l ≠ []) (hB : ∀ x, x ∈ l → x < 256) (hl : l.length < 1099511627776) (hk : kP l = 2) : Runs l := by
  have hp : 0 < l.length := List.length_pos_iff.2 h0
  obtain ⟨o1, e1⟩ : ∃ x, x = toO l 0 false 2 := ⟨_, rfl⟩
  obtain ⟨b1, f1⟩ : ∃ x, x = toB l 0 false 2 := ⟨_, rfl⟩
  obtain ⟨o2, e2⟩ : ∃ x, x = toO l o1 b1 1 := ⟨_, rfl⟩
  obtain ⟨b2, f2⟩ : ∃ x, x = toB l o1 b1 1 := ⟨_, rfl⟩
  obtain ⟨o3, e3⟩ : ∃ x, x = toO l o2 b2 8 := ⟨_, rfl⟩
  obtain ⟨b3, f3⟩ : ∃ x, x = toB l o2 b2 8 := ⟨_, rfl⟩
  obtain ⟨o4, e4⟩ : ∃ x, x = toO l o3 b3 8 := ⟨_, rfl⟩
  obtain ⟨b4, f4⟩ : ∃ x, x = toB l o3 b3 8 := ⟨_, rfl⟩
  obtain ⟨o5, e5⟩ : ∃ x, x = toO l o4 b4 8 := ⟨_, rfl⟩
  obtain ⟨b5, f5⟩ : ∃ x, x = toB l o4 b4 8 := ⟨_, rfl⟩
  obtain ⟨o6, e6⟩ : ∃ x, x = toO l o5 b5 8 := ⟨_, rfl⟩
  obtain ⟨b6, f6⟩ : ∃ x, x = toB l o5 b5 8 := ⟨_, rfl⟩
  obtain ⟨o7, e7⟩ : ∃ x, x = toO l o6 b6 2 := ⟨_, rfl⟩
  obtain ⟨b7, f7⟩ : ∃ x, x = toB l o6 b6 2 := ⟨_, rfl⟩
  obtain ⟨nw, en⟩ : ∃ x, x = numV l o6 b6 2 := ⟨_, rfl⟩
  obtain ⟨o8, e8⟩ : ∃ x, x = toO l o7 b7 nw := ⟨_, rfl⟩
  obtain ⟨b8, f8⟩ : ∃ x, x = toB l o7 b7 nw := ⟨_, rfl⟩
  obtain ⟨o9, e9⟩ : ∃ x, x = toO l o8 b8 4 := ⟨_, rfl⟩
  obtain ⟨b9, f9⟩ : ∃ x, x = toB l o8 b8 4 := ⟨_, rfl⟩
  have l1 : o1 ≤ l.length := e1 ▸ toO_le (Nat.zero_le _)
  have l2 : o2 ≤ l.length := e2 ▸ toO_le l1
  have l3 : o3 ≤ l.length := e3 ▸ toO_le l2
  have l4 : o4 ≤ l.length := e4 ▸ toO_le l3
  have l5 : o5 ≤ l.length := e5 ▸ toO_le l4
  have l6 : o6 ≤ l.length := e6 ▸ toO_le l5
  have l7 : o7 ≤ l.length := e7 ▸ toO_le l6
  have l8 : o8 ≤ l.length := e8 ▸ toO_le l7
  have l9 : o9 ≤ l.length := e9 ▸ toO_le l8
  obtain ⟨k, ek⟩ : ∃ x, x = numV l o1 b1 1 := ⟨_, rfl⟩
  obtain ⟨m, em⟩ : ∃ x, x = numV l o2 b2 8 := ⟨_, rfl⟩
  obtain ⟨t, et⟩ : ∃ x, x = numV l o3 b3 8 := ⟨_, rfl⟩
  obtain ⟨a, ea⟩ : ∃ x, x = numV l o4 b4 8 := ⟨_, rfl⟩
  obtain ⟨s, es⟩ : ∃ x, x = numV l o5 b5 8 := ⟨_, rfl⟩
  have nwl : nw < 65536 := by rw [en]; exact numV_lt (k := 2) hB (by decide)
  have kk : k = 2 := by rw [ek, e1, f1]; exact hk
  have hw : wrapF .i64 (.ofNat k) = .ofNat k := wrap_nat (by omega)
  have q2 : eqF (wrapF .i64 (.ofNat k)) (.ofNat 2) = true := by rw [hw, kk]; rfl
  have c0 : Call1 Try.prog 61 [.ptr (some (4, 0)), nI 2] (mO (R0 l) (R2 l) (vIn 3 l 0) false 5) (cutR 3 l 0 false 2, mO (R0 l) (R2 l) (vIn 3 l o1) b1 7) := by
    rw [e1, f1]; exact atM h0 (Nat.zero_le _) (toO_le (Nat.zero_le _)) (refI 2) (bytesRun (Nat.zero_le _)) (cut_map (Nat.zero_le _)) (by decide)
  have c1 : Call1 Try.prog 62 [.ptr (some (4, 0)), nI 1] (mO (R0 l) (R2 l) (vIn 3 l o1) b1 7) (.int .u64 (.ofNat k), mO (R0 l) (R2 l) (vIn 3 l o2) b2 9) := by
    rw [ek, e2, f2]; exact atM h0 l1 (toO_le l1) (refI 1) (num1 l1 hB) (fun _ _ => rfl) (by decide)
  have c2 : Call1 Try.prog 62 [.ptr (some (4, 0)), nI 8] (mO (R0 l) (R2 l) (vIn 3 l o2) b2 9) (.int .u64 (.ofNat m), mO (R0 l) (R2 l) (vIn 3 l o3) b3 11) := by
    rw [em, e3, f3]; exact atM h0 l2 (toO_le l2) (refI 8) (num8 l2 hB) (fun _ _ => rfl) (by decide)
  have c3 : Call1 Try.prog 62 [.ptr (some (4, 0)), nI 8] (mO (R0 l) (R2 l) (vIn 3 l o3) b3 11) (.int .u64 (.ofNat t), mO (R0 l) (R2 l) (vIn 3 l o4) b4 13) := by
    rw [et, e4, f4]; exact atM h0 l3 (toO_le l3) (refI 8) (num8 l3 hB) (fun _ _ => rfl) (by decide)
  have c4 : Call1 Try.prog 62 [.ptr (some (4, 0)), nI 8] (mD (R0 l) (R2 l) (vIn 3 l o4) b4 z6 (rdr.pO (wrapF .i64 (.ofNat k)) (.ofNat m) (.ofNat t) 0 0 nilV) 14) (.int .u64 (.ofNat a), mD (R0 l) (R2 l) (vIn 3 l o5) b5 z6 (rdr.pO (wrapF .i64 (.ofNat k)) (.ofNat m) (.ofNat t) 0 0 nilV) 16) := by
    rw [ea, e5, f5]; exact atP h0 l4 (toO_le l4) (refI 8) (num8 l4 hB) (fun _ _ => rfl) (by decide)
  have c5 : Call1 Try.prog 62 [.ptr (some (4, 0)), nI 8] (mD (R0 l) (R2 l) (vIn 3 l o5) b5 z6 (rdr.pO (wrapF .i64 (.ofNat k)) (.ofNat m) (.ofNat t) (.ofNat a) 0 nilV) 16) (.int .u64 (.ofNat s), mD (R0 l) (R2 l) (vIn 3 l o6) b6 z6 (rdr.pO (wrapF .i64 (.ofNat k)) (.ofNat m) (.ofNat t) (.ofNat a) 0 nilV) 18) := by
    rw [es, e6, f6]; exact atP h0 l5 (toO_le l5) (refI 8) (num8 l5 hB) (fun _ _ => rfl) (by decide)
  have c6 : Call1 Try.prog 63 [.ptr (some (4, 0))] (mD (R0 l) (R2 l) (vIn 3 l o6) b6 z6 (rdr.pO (wrapF .i64 (.ofNat k)) (.ofNat m) (.ofNat t) (.ofNat a) 0 nilV) 18) (cutR 3 l o7 b7 nw, mD (R0 l) (R2 l) (vIn 3 l o8) b8 z6 (rdr.pO (wrapF .i64 (.ofNat k)) (.ofNat m) (.ofNat t) (.ofNat a) 0 nilV) 20) := by
    rw [e8, f8]
    have h := atP (l := l) (p := (rdr.pO (wrapF .i64 (.ofNat k)) (.ofNat m) (.ofNat t) (.ofNat a) 0 nilV)) (c := z6) (nx := 18) (bad := b6) h0 l6 (toO_le (toO_le l6)) refN (blobRun l6 hB) (cut_map (toO_le l6)) (by decide)
    unfold blobN at h
    rw [← e7, ← f7, ← en] at h
    exact h
  have c7 : Call1 Try.prog 61 [.ptr (some (4, 0)), nI 4] (mD (R0 l) (R2 l) (vIn 3 l o8) b8 z6 (rdr.pO (wrapF .i64 (.ofNat k)) (.ofNat m) (.ofNat t) (.ofNat a) (.ofNat s) (cutR 3 l o7 b7 nw)) 20) (cutR 3 l o8 b8 4, mD (R0 l) (R2 l) (vIn 3 l o9) b9 z6 (rdr.pO (wrapF .i64 (.ofNat k)) (.ofNat m) (.ofNat t) (.ofNat a) (.ofNat s) (cutR 3 l o7 b7 nw)) 22) := by
    rw [e9, f9]; exact atP h0 l8 (toO_le l8) (refI 4) (bytesRun l8) (cut_map l8) (by decide)
  have c8 : Call1 Try.prog 64 [.ptr (some (4, 0))] (mD (R0 l) (R2 l) (vIn 3 l o9) b9 z6 (rdr.pO (wrapF .i64 (.ofNat k)) (.ofNat m) (.ofNat t) (.ofNat a) (.ofNat s) (cutR 3 l o7 b7 nw)) 22) (nI (endN l o9 b9), mD (R0 l) (R2 l) (vIn 3 l o9) b9 z6 (rdr.pO (wrapF .i64 (.ofNat k)) (.ofNat m) (.ofNat t) (.ofNat a) (.ofNat s) (cutR 3 l o7 b7 nw)) 24) := atP h0 l9 l9 refN (endRun l9) (fun _ _ => rfl) (by decide)
  obtain ⟨pl, epl⟩ : ∃ x, x = (if b8 = true then [] else (l.drop o7).take nw) := ⟨_, rfl⟩
  have bpl : ∀ x, x ∈ pl → x < 256 := fun x hx => by
    rw [epl] at hx
    split at hx
    · cases hx
    · exact hB x (List.mem_of_mem_drop (List.mem_of_mem_take hx))
  have lpl : pl.length < 9223372036854775808 := by
    rw [epl]
    split
    · decide
    · rw [List.length_take, List.length_drop]; omega
  obtain ⟨A, ee, R, cB, hA⟩ := bytesD (S := mD (R0 l) (R2 l) (vIn 3 l o9) b9 z6 (rdr.pO (wrapF .i64 (.ofNat k)) (.ofNat m) (.ofNat t) (.ofNat a) (.ofNat s) (cutR 3 l o7 b7 nw)) 24) (m := m) (t := t) (a := a) (s := s) (v := cutR 3 l o7 b7 nw) (x := pl) (by rw [epl, f8]; exact cut_sl (rw := true) (by kernel_rfl) l7) bpl lpl
  have c9 : Call1 Try.prog 22 [.agg [.int .i64 (wrapF .i64 (.ofNat k)), .int .u64 (.ofNat m), .int .u64 (.ofNat t), .int .u64 (.ofNat a), .int .u64 (.ofNat s), cutR 3 l o7 b7 nw]] (mD (R0 l) (R2 l) (vIn 3 l o9) b9 z6 (rdr.pO (wrapF .i64 (.ofNat k)) (.ofNat m) (.ofNat t) (.ofNat a) (.ofNat s) (cutR 3 l o7 b7 nw)) 24)
      (.tuple [A, nI ee], mkSt [(0, R0 l), (1, z6), (2, .cells [] true), (3, R2 l), (4, rd (vIn 3 l o9) b9), (13, (rdr.pO (wrapF .i64 (.ofNat k)) (.ofNat m) (.ofNat t) (.ofNat a) (.ofNat s) (cutR 3 l o7 b7 nw))), (68, R)] 69) := by
    rw [hw, kk] at cB ⊢; exact to1 cB rfl (by kernel_rfl)
  have hf : ∀ S : ASt, S.h.get 0 = some (R0 l) → aFirst S 1 l.length (.slice (some (0, 0)) l.length (.atl l.length)) = some (l.map cellU) := fun S h => first_at h (by rw [Nat.mul_one]; exact takeU)
  have hgc : good l → b1 = false ∧ m = x1 l ∧ t = x2 l ∧ a = x3 l ∧ s = x4 l ∧ nw = nP l ∧ o7 = 37 ∧ b8 = false ∧ l.length = 41 + nP l ∧ endN l o9 b9 = 0 := fun g => by
    obtain ⟨hb1, ho4, hb4, hk', hm, ht⟩ := chain19 e1 f1 e2 f2 e3 f3 e4 f4 ek em et (by have := good_len g; omega)
    have hL : l.length = 41 + nP l := by
      rcases g with ⟨q, _⟩ | ⟨q, _⟩ | ⟨_, q, _⟩
      · exact absurd (hk'.symm.trans kk) q
      · exact absurd ((hk'.symm.trans kk).symm.trans q) (by decide)
      · exact q
    rw [ho4, hb4] at e5 f5 ea
    obtain ⟨p, q⟩ := to_ok (l := l) (o := 19) (s := 8) (by omega)
    rw [p] at f5; rw [q] at e5; rw [numV_ok p] at ea; subst f5; subst e5
    obtain ⟨p, q⟩ := to_ok (l := l) (o := 19 + 8) (s := 8) (by omega)
    rw [p] at f6; rw [q] at e6; rw [numV_ok p] at es; subst f6; subst e6
    obtain ⟨p, q⟩ := to_ok (l := l) (o := 19 + 8 + 8) (s := 2) (by omega)
    rw [p] at f7; rw [q] at e7; rw [numV_ok p] at en; subst f7; subst e7
    have en' : nw = nP l := en
    obtain ⟨p, q⟩ := to_ok (l := l) (o := 19 + 8 + 8 + 2) (s := nw) (by omega)
    rw [p] at f8; rw [q] at e8; subst f8; subst e8
    obtain ⟨p, q⟩ := to_ok (l := l) (o := 19 + 8 + 8 + 2 + nw) (s := 4) (by omega)
    rw [p] at f9; rw [q] at e9
    exact ⟨hb1, hm, ht, ea, es, en', rfl, rfl, hL, by rw [f9, show o9 = l.length by omega]; exact end_ok⟩
  have hg : good l ↔ (b1 = false ∧ (l.drop 0).take 2 = [71, 80]) ∧ endN l o9 b9 = 0 ∧ mayD m t a s pl.length = true ∧ bdD m t a s pl = l := by
    constructor
    · intro g
      obtain ⟨h1, h2, h3, h4, h5, h6, h7, h8, h9, h10⟩ := hgc g
      refine ⟨⟨h1, good_mark g⟩, h10, ?_⟩
      obtain ⟨_, _, _, hk', _, _⟩ := chain19 e1 f1 e2 f2 e3 f3 e4 f4 ek em et (by have := good_len g; omega)
      have hpl : pl = plD l := by rw [epl, h8, h7, h6]; rfl
      have hpn : pl.length = nP l := by rw [hpl, plD, List.length_take, List.length_drop]; omega
      rcases g with ⟨q, _⟩ | ⟨q, _⟩ | ⟨_, q1, q2, q3⟩
      · exact absurd (hk'.symm.trans kk) q
      · exact absurd ((hk'.symm.trans kk).symm.trans q) (by decide)
      · rw [hpn, h2, h3, h4, h5, hpl]; exact ⟨q2, q3⟩
    · rintro ⟨_, he, g2, g3⟩
      obtain ⟨h1, h2⟩ := end_inv l9 he
      rw [f9] at h1
      obtain ⟨h3, h4, h5⟩ := to_inv h1
      have b8f := h3
      rw [f8] at h3
      obtain ⟨h6, h7, h8⟩ := to_inv h3
      rw [f7] at h6
      obtain ⟨h9, h10, h11⟩ := to_inv h6
      have hn := numV_ok h6
      rw [f6] at h9
      obtain ⟨h12, h13, h14⟩ := to_inv h9
      have hs := numV_ok h9
      rw [f5] at h12
      obtain ⟨h15, h16, h17⟩ := to_inv h12
      have ha := numV_ok h12
      obtain ⟨hb1, ho4, hb4, hk', hm, ht⟩ := chain19 e1 f1 e2 f2 e3 f3 e4 f4 ek em et (chainB e1 f1 e2 f2 e3 f3 e4 f4 h15)
      have v5 : o5 = 27 := by rw [e5, h17, ho4]
      have v6 : o6 = 35 := by rw [e6, h14, v5]
      have v7 : o7 = 37 := by rw [e7, h11, v6]
      have va : a = x3 l := by rw [ea, ha, ho4]; rfl
      have vs : s = x4 l := by rw [es, hs, v5]; rfl
      have vn : nw = nP l := by rw [en, hn, v6]; rfl
      have hpl : pl = plD l := by rw [epl, b8f, v7, vn]; rfl
      have hL : l.length = 41 + nP l := by omega
      have hpn : pl.length = nP l := by rw [hpl, plD, List.length_take, List.length_drop]; omega
      rw [hpn, hm, ht, va, vs] at g2
      rw [hm, ht, va, vs, hpl] at g3
      exact .inr (.inr ⟨hk'.symm.trans kk, hL, g2, g3⟩)
  have hq := qO_ok (tok c0 (tok c1 (tok c2 (tok c3 (tok c4 (tok c5 (tok c6 (tok c7 (tok c8 (tok c9 tok0))))))))))
  have hv0 : vIn 3 l 0 = .slice (some (3, 0)) l.length (.rest 1) := by
    rcases forms2 3 (Nat.zero_le l.length) with ⟨h, _⟩ | ⟨_, h, _⟩ | ⟨_, _, _, e⟩
    · exact absurd h h0
    · omega
    · exact e
  rw [hv0] at hq
  have sh := cut_Sh (r := 3) (bad := b7) (s := nw) l7
  obtain ⟨W, eW⟩ : ∃ W, W = cutR 3 l o7 b7 nw := ⟨_, rfl⟩
  rw [← eW] at sh hq
  refine run_of_tm E3ok hq (Eq.mp (vcD (qO _) l.length (endN l o9 b9) ee (R0 l) (R2 l) R (!((if b1 = true then [] else (l.drop 0).take 2) == [71, 80])) (decide (bdD m t a s pl = l)) (if b1 = true then [] else (l.drop 0).take 2) (cutR 3 l 0 false 2) (cutR 3 l o8 b8 4) A W k m t a s (vIn 3 l 0) (vIn 3 l o1) (vIn 3 l o2) (vIn 3 l o3) (vIn 3 l o4) (vIn 3 l o5) (vIn 3 l o6) (vIn 3 l o8) (vIn 3 l o9) b1 b2 b3 b4 b5 b6 b8 b9 (Ends l))
    ⟨?_, at_tab rfl (tabC_hd ..), ?_, at_tab rfl ((tabC_tln rfl).trans (tabC_hd ..)), at_tab rfl ((tabC_tln rfl).trans ((tabC_tln rfl).trans (tabC_hd ..))), at_tab rfl ((tabC_tln rfl).trans ((tabC_tln rfl).trans ((tabC_tln rfl).trans (tabC_hd ..)))), by kernel_rfl, eql_int _ q2, at_tab rfl ((tabC_tln rfl).trans ((tabC_tln rfl).trans ((tabC_tln rfl).trans ((tabC_tln rfl).trans (tabC_hd ..))))), by kernel_rfl, eql_int _ q2, at_tab rfl ((tabC_tln rfl).trans ((tabC_tln rfl).trans ((tabC_tln rfl).trans ((tabC_tln rfl).trans ((tabC_tln rfl).trans (tabC_hd ..)))))), at_tab rfl ((tabC_tln rfl).trans ((tabC_tln rfl).trans ((tabC_tln rfl).trans ((tabC_tln rfl).trans ((tabC_tln rfl).trans ((tabC_tln rfl).trans (tabC_hd ..))))))), by kernel_rfl, ?_, at_tab rfl ((tabC_tln rfl).trans ((tabC_tln rfl).trans ((tabC_tln rfl).trans ((tabC_tln rfl).trans ((tabC_tln rfl).trans ((tabC_tln rfl).trans ((tabC_tln rfl).trans (tabC_hd ..)))))))), neq_str _, ifB_mk (fun h1 => ⟨by kernel_rfl, ?_⟩) fun h1 =>
     ⟨at_tab rfl ((tabC_tln rfl).trans ((tabC_tln rfl).trans ((tabC_tln rfl).trans ((tabC_tln rfl).trans ((tabC_tln rfl).trans ((tabC_tln rfl).trans ((tabC_tln rfl).trans ((tabC_tln rfl).trans (tabC_hd ..))))))))), ifB_mk (fun h2 => ⟨by kernel_rfl, ?_⟩) fun h2 =>
     ⟨at_tab rfl ((tabC_tln rfl).trans ((tabC_tln rfl).trans ((tabC_tln rfl).trans ((tabC_tln rfl).trans ((tabC_tln rfl).trans ((tabC_tln rfl).trans ((tabC_tln rfl).trans ((tabC_tln rfl).trans ((tabC_tln rfl).trans (tabC_hd ..)))))))))), ifB_mk (fun h3 => ⟨by kernel_rfl, ?_⟩) fun h3 => ⟨?_, ifB_mk (fun h4 => ⟨?_, ?_⟩) fun h4 => ⟨by kernel_rfl, ?_⟩⟩⟩⟩⟩)
  · exact (append_zero_at app25 (n := l.length) (k := 2) (cs := []) (rw := true) (by kernel_rfl) (hf _ (by kernel_rfl)) (by kernel_rfl) hp (by omega) (by omega)).trans (by kernel_rfl)
  · subst f1
    refine conv (cut_sl (rw := true) (by kernel_rfl) (Nat.zero_le _)) ?_
    intro x hx
    split at hx
    · cases hx
    · exact hB x (List.mem_of_mem_drop (List.mem_of_mem_take hx))
  · rcases sh with h | h | ⟨r', o', s', h⟩ <;> rw [h] <;> kernel_rfl
  · refine fail_ends (by decide) fun g => ?_
    obtain ⟨⟨p, q⟩, _⟩ := hg.1 g
    rw [p, q] at h1; cases h1
  · refine fail_ends (by decide) fun g => ?_
    obtain ⟨_, p, _⟩ := hg.1 g
    rw [p] at h2; cases h2
  · refine fail_ends (by decide) fun g => ?_
    obtain ⟨_, _, p, _⟩ := hg.1 g
    rcases hA with ⟨q, _⟩ | ⟨_, q, _⟩
    · rw [p] at q; cases q
    · rw [q] at h3; cases h3
  · rcases hA with ⟨_, q⟩ | ⟨q1, q2', q4, q5⟩
    · rw [q] at h3; cases h3
    · subst q4; subst q5
      exact at_eq rfl (SlB.row (cs := (bdD m t a s pl).map cellU) (rw := true) (by kernel_rfl) (taken _ bdD_len)) (SlB.row (cs := l.map cellU) (rw := false) (by kernel_rfl) takeU) (by rw [bdD_len]; rcases pky.may2_len q1 with ⟨_, q⟩; omega)
  · rcases sh with h | h | ⟨r', o', s', h⟩ <;> rw [h] <;> kernel_rfl
  · rcases hA with ⟨_, q⟩ | ⟨q1, q2', q4, q5⟩
    · rw [q] at h3; cases h3
    · have he : endN l o9 b9 = 0 := nn (by simpa using h2)
      have g := hg.2 ⟨mark_b h1, he, q1, of_decide_eq_true h4⟩
      refine good_ends (by decide) g ?_
      obtain ⟨_, _, _, hk', _, _⟩ := chain19 e1 f1 e2 f2 e3 f3 e4 f4 ek em et (by have := good_len g; omega)
      obtain ⟨_, h2, h3, h4, h5, h6, h7, h8, h9, _⟩ := hgc g
      have hW : W = .slice (some (3, 37)) (nP l) (.known (nP l)) := by
        rw [eW, cutR_ok (f8.symm.trans h8) (by omega), h7, h6]
      unfold pkV
      rw [hw, ← hk', kk, h2, h3, h4, h5, hW]
      rfl
  · refine fail_ends (by decide) fun g => ?_
    obtain ⟨_, _, _, p⟩ := hg.1 g
    rw [decide_eq_true p] at h4; cases h4
end
end Go.Proofs.Ytlnohbilfogheaa.pof
end
