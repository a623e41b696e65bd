/-
  OWN WORK, TOLD ONCE FOR ALL TEXTS YtmjmpmmonelmmaaAxA TO YtmjmpmmonelmmaaAxU: an abstract machine for the program's text that the kernel can run, and the proof that it is sound: what it answers is what the program answers. No condition.
-/
import Derived.Test.YtmjmpmmonelmmaaAxW
namespace Go.Ax
noncomputable section
open Go.RowKit

/-! ### Two values alike -/
def capEq : Cap → Cap → Bool
  | .known a, .known b => Nat.beq a b
  | .rest a, .rest b => Nat.beq a b
  | .atl a, .atl b => Nat.beq a b
  | _, _ => false

def locEq : Option (Nat × Nat) → Option (Nat × Nat) → Bool
  | none, none => true
  | some a, some b => Nat.beq a.1 b.1 && Nat.beq a.2 b.2
  | _, _ => false

mutual
def avEq : AV → AV → Bool
  | .bool a, y => match y with | .bool b => boolEq a b | _ => false
  | .int k n, y => match y with | .int j m => decide (k = j) && decide (n = m) | _ => false
  | .str a, y => match y with | .str b => decide (a = b) | _ => false
  | .ptr a, y => match y with | .ptr b => locEq a b | _ => false
  | .slice a l c, y => match y with | .slice b m d => locEq a b && (Nat.beq l m && capEq c d) | _ => false
  | .clos f cs, y => match y with | .clos g ds => Nat.beq f g && avsEq cs ds | _ => false
  | .bound f fs cs, y => match y with | .bound g gs ds => Nat.beq f g && (avsEq fs gs && avsEq cs ds) | _ => false
  | .yield a, y => match y with | .yield b => Nat.beq a b | _ => false
  | .nilFunc, y => match y with | .nilFunc => true | _ => false
  | .iface t v, y => match y with | .iface u w => Nat.beq t u && avEq v w | _ => false
  | .nilIface, y => match y with | .nilIface => true | _ => false
  | .agg cs, y => match y with | .agg ds => avsEq cs ds | _ => false
  | .tuple cs, y => match y with | .tuple ds => avsEq cs ds | _ => false
  | .map a, y => match y with | .map b => decide (a = b) | _ => false
  | .slice0, y => match y with | .slice0 => true | _ => false
  | .gptr g o, y => match y with | .gptr g' o' => Nat.beq g g' && Nat.beq o o' | _ => false
  | .any, y => match y with | .any => true | _ => false
def avsEq : List AV → List AV → Bool
  | [], [] => true
  | x :: xs, y :: ys => avEq x y && avsEq xs ys
  | _, _ => false
end

theorem nbeq {a b : Nat} (h : Nat.beq a b = true) : a = b := Nat.eq_of_beq_eq_true h

theorem boolEq_eq {a b : Bool} (h : boolEq a b = true) : a = b := by cases a <;> cases b <;> first | rfl | (simp [boolEq] at h)

theorem capEq_eq {a b : Cap} (h : capEq a b = true) : a = b := by
  cases a <;> cases b <;> simp only [capEq, Bool.false_eq_true] at h <;> rw [nbeq h]

theorem locEq_eq {a b : Option (Nat × Nat)} (h : locEq a b = true) : a = b := by
  cases a with
  | none => cases b with
    | none => rfl
    | some b => simp [locEq] at h
  | some a => cases b with
    | none => simp [locEq] at h
    | some b =>
      obtain ⟨a1, a2⟩ := a; obtain ⟨b1, b2⟩ := b
      simp only [locEq, Bool.and_eq_true] at h
      rw [nbeq h.1, nbeq h.2]

mutual
theorem avEq_eq : ∀ (a b : AV), avEq a b = true → a = b
  | .bool a, b, h => by cases b <;> simp only [avEq, Bool.false_eq_true] at h; rw [boolEq_eq h]
  | .int k n, b, h => by
    cases b <;> simp only [avEq, Bool.false_eq_true] at h
    simp only [Bool.and_eq_true, decide_eq_true_eq] at h
    rw [h.1, h.2]
  | .str a, b, h => by cases b <;> simp only [avEq, Bool.false_eq_true, decide_eq_true_eq] at h; rw [h]
  | .ptr a, b, h => by cases b <;> simp only [avEq, Bool.false_eq_true] at h; rw [locEq_eq h]
  | .slice a l c, b, h => by
    cases b <;> simp only [avEq, Bool.false_eq_true] at h
    simp only [Bool.and_eq_true] at h
    rw [locEq_eq h.1, nbeq h.2.1, capEq_eq h.2.2]
  | .clos f cs, b, h => by
    cases b <;> simp only [avEq, Bool.false_eq_true] at h
    simp only [Bool.and_eq_true] at h
    rw [nbeq h.1, avsEq_eq _ _ h.2]
  | .bound f fs cs, b, h => by
    cases b <;> simp only [avEq, Bool.false_eq_true] at h
    simp only [Bool.and_eq_true] at h
    rw [nbeq h.1, avsEq_eq _ _ h.2.1, avsEq_eq _ _ h.2.2]
  | .yield a, b, h => by cases b <;> simp only [avEq, Bool.false_eq_true] at h; rw [nbeq h]
  | .nilFunc, b, h => by cases b <;> simp only [avEq, Bool.false_eq_true] at h; rfl
  | .iface t v, b, h => by
    cases b <;> simp only [avEq, Bool.false_eq_true] at h
    simp only [Bool.and_eq_true] at h
    rw [nbeq h.1, avEq_eq _ _ h.2]
  | .nilIface, b, h => by cases b <;> simp only [avEq, Bool.false_eq_true] at h; rfl
  | .agg cs, b, h => by cases b <;> simp only [avEq, Bool.false_eq_true] at h; rw [avsEq_eq _ _ h]
  | .tuple cs, b, h => by cases b <;> simp only [avEq, Bool.false_eq_true] at h; rw [avsEq_eq _ _ h]
  | .map a, b, h => by cases b <;> simp only [avEq, Bool.false_eq_true, decide_eq_true_eq] at h; rw [h]
  | .slice0, b, h => by cases b <;> simp only [avEq, Bool.false_eq_true] at h; rfl
  | .gptr g o, b, h => by
    cases b <;> simp only [avEq, Bool.false_eq_true] at h
    simp only [Bool.and_eq_true] at h
    rw [nbeq h.1, nbeq h.2]
  | .any, b, h => by cases b <;> simp only [avEq, Bool.false_eq_true] at h; rfl
theorem avsEq_eq : ∀ (a b : List AV), avsEq a b = true → a = b
  | [], [], _ => rfl
  | x :: xs, y :: ys, h => by
    simp only [avsEq, Bool.and_eq_true] at h
    rw [avEq_eq _ _ h.1, avsEq_eq _ _ h.2]
  | [], _ :: _, h => by simp [avsEq] at h
  | _ :: _, [], h => by simp [avsEq] at h
end

end
end Go.Ax
