/-
  OWN WORK, TOLD ONCE FOR ALL TEXTS YtmjmpmmonelmmaaAxA TO YtmjmpmmonelmmaaAxU: an abstract machine for the program's text that the kernel can run, and the proof that it is sound: what it answers is what the program answers. No condition.
-/
import Derived.Test.YtmjmpmmonelmmaaAxD
namespace Go.Ax
noncomputable section
open Go.RowKit

/-! ### Arithmetic that the kernel reckons fast -/
def modN (n : Int) (M : Nat) : Nat :=
  match n with
  | .ofNat m => m % M
  | .negSucc m => M - 1 - m % M

theorem modN_eq (n : Int) (M : Nat) (hM : 0 < M) : ((modN n M : Nat) : Int) = n % (M : Int) := by
  cases n with
  | ofNat m => simp [modN]
  | negSucc m =>
    have h1 : m % M < M := Nat.mod_lt _ hM
    simp only [modN]
    rw [Int.negSucc_emod _ (by omega : (0 : Int) < (M : Int))]
    have : ((m : Int) % (M : Int)) = ((m % M : Nat) : Int) := by simp
    rw [this]; omega

def big : IntKind → Nat
  | .i8 | .u8 => 256
  | .i16 | .u16 => 65536
  | .i32 | .u32 => 4294967296
  | .i64 | .u64 => 18446744073709551616

def half : IntKind → Nat
  | .i8 => 128
  | .i16 => 32768
  | .i32 => 2147483648
  | .i64 => 9223372036854775808
  | .u8 => 256
  | .u16 => 65536
  | .u32 => 4294967296
  | .u64 => 18446744073709551616

def wrapF (k : IntKind) (n : Int) : Int :=
  let m := modN n (big k)
  bif Nat.blt m (half k) then .ofNat m else .negSucc (big k - 1 - m)

theorem big_eq (k : IntKind) : (2 ^ k.bits : Int) = (big k : Int) := by cases k <;> simp [IntKind.bits, big]

theorem wrapF_eq (k : IntKind) (n : Int) : wrapF k n = k.wrap n := by
  have hpos : 0 < big k := by cases k <;> simp [big]
  have h1 := modN_eq n (big k) hpos
  have h2 : modN n (big k) < big k := by
    have : ((modN n (big k) : Nat) : Int) < big k := by rw [h1]; exact Int.emod_lt_of_pos _ (by omega)
    omega
  unfold wrapF IntKind.wrap
  simp only [big_eq, ← h1]
  generalize modN n (big k) = m at *
  cases hb : Nat.blt m (half k)
  · have hge : half k ≤ m := by
      have : ¬ m < half k := by intro hlt; rw [← Nat.blt_eq] at hlt; rw [hlt] at hb; simp at hb
      omega
    simp only [cond_false]
    cases k <;> simp [big, half, IntKind.signed, IntKind.bits] at * <;> omega
  · have hlt : m < half k := by rw [← Nat.blt_eq]; exact hb
    simp only [cond_true]
    cases k <;> simp [big, half, IntKind.signed, IntKind.bits] at * <;> omega

def ltF : Int → Int → Bool
  | .ofNat a, .ofNat b => Nat.blt a b
  | .ofNat _, .negSucc _ => false
  | .negSucc _, .ofNat _ => true
  | .negSucc a, .negSucc b => Nat.blt b a

def eqF : Int → Int → Bool
  | .ofNat a, .ofNat b => Nat.beq a b
  | .negSucc a, .negSucc b => Nat.beq a b
  | _, _ => false

theorem blt_dec (a b : Nat) : Nat.blt a b = decide (a < b) := by
  cases h : Nat.blt a b
  · have : ¬ a < b := by intro hlt; rw [← Nat.blt_eq] at hlt; rw [hlt] at h; simp at h
    simp [this]
  · have : a < b := by rw [← Nat.blt_eq]; exact h
    simp [this]

theorem beq_dec (a b : Nat) : Nat.beq a b = decide (a = b) := by
  cases h : Nat.beq a b
  · have : ¬ a = b := by intro e; rw [e] at h; simp at h
    simp [this]
  · have := Nat.eq_of_beq_eq_true h; simp [this]

theorem ltF_eq (a b : Int) : ltF a b = decide (a < b) := by
  have e : ∀ (p q : Prop) [Decidable p] [Decidable q], (p ↔ q) → decide p = decide q := fun p q _ _ h => by simp [h]
  cases a <;> cases b <;> simp only [ltF, blt_dec]
  · exact e _ _ (by simp only [Int.ofNat_eq_natCast]; omega)
  · rename_i a b
    have : ¬ (Int.ofNat a < Int.negSucc b) := by simp only [Int.ofNat_eq_natCast]; omega
    exact (decide_eq_false this).symm
  · rename_i a b
    have : Int.negSucc a < Int.ofNat b := by simp only [Int.ofNat_eq_natCast]; omega
    exact (decide_eq_true this).symm
  · exact e _ _ (by omega)

theorem eqF_eq (a b : Int) : eqF a b = (a == b) := by
  rw [Bool.eq_iff_iff, beq_iff_eq]
  cases a <;> cases b <;> simp only [eqF, beq_dec, decide_eq_true_eq, Int.ofNat_eq_natCast, Bool.false_eq_true, false_iff] <;> omega

def shrF (x : Int) (n : Nat) : Int :=
  match x with
  | .ofNat m => .ofNat (m / 2 ^ n)
  | .negSucc m => .negSucc (m / 2 ^ n)

theorem shrF_eq (x : Int) (n : Nat) : shrF x n = x.fdiv (2 ^ n) := by
  have hp : (0 : Int) < 2 ^ n := Int.pow_pos (by omega)
  have e : ((2 : Int) ^ n) = ((2 ^ n : Nat) : Int) := by simp
  rw [Int.fdiv_eq_ediv_of_nonneg _ (Int.le_of_lt hp), e]
  cases x with
  | ofNat m => simp [shrF]
  | negSucc m =>
    have hp' : 0 < 2 ^ n := Nat.two_pow_pos n
    simp only [shrF]
    rw [Int.negSucc_ediv _ (by omega : (0 : Int) < ((2 ^ n : Nat) : Int))]
    have : (m : Int).ediv ((2 ^ n : Nat) : Int) = ((m / 2 ^ n : Nat) : Int) := rfl
    rw [this]; omega

def shlF (k : IntKind) (x : Int) (n : Nat) : Int :=
  match x with
  | .ofNat m => wrapF k (.ofNat (m * 2 ^ n))
  | .negSucc m => wrapF k (-(Int.ofNat ((m + 1) * 2 ^ n)))

theorem shlF_eq (k : IntKind) (x : Int) (n : Nat) : shlF k x n = k.wrap (x * 2 ^ n) := by
  cases x with
  | ofNat m => simp [shlF, wrapF_eq]
  | negSucc m =>
    simp only [shlF, wrapF_eq]
    simp [Int.negSucc_eq, Int.neg_mul]

def bitsF (op : BinOp) (k : IntKind) (x y : Int) : Option Int :=
  let a := modN x (big k)
  let b := modN y (big k)
  match op with
  | .and => some (wrapF k (.ofNat (Nat.land a b)))
  | .or => some (wrapF k (.ofNat (Nat.lor a b)))
  | .xor => some (wrapF k (.ofNat (Nat.xor a b)))
  | .andNot => some (wrapF k (.ofNat (Nat.land a (big k - 1 - b))))
  | _ => none

theorem toNat_ofInt_big (k : IntKind) (x : Int) : (BitVec.ofInt k.bits x).toNat = modN x (big k) := by
  have hpos : 0 < big k := by cases k <;> simp [big]
  have h := modN_eq x (big k) hpos
  rw [BitVec.toNat_ofInt]
  have e : ((2 ^ k.bits : Nat) : Int) = (big k : Int) := by rw [← big_eq]; simp
  rw [e, ← h]; rfl

theorem bits_big (k : IntKind) : 2 ^ k.bits = big k := by cases k <;> rfl

theorem bitsF_ok {P : Program} {op : BinOp} {k : IntKind} {x y r : Int} (h : bitsF op k x y = some r) (w : World) :
    (Op.intBits op k x y).run P w = .ok (.int k r) w := by
  unfold bitsF at h
  cases op <;> simp only [Option.some.injEq, reduceCtorEq] at h <;> subst h <;>
    simp only [Op.intBits, Sem.run_pure, BitVec.toNat_and, BitVec.toNat_or, BitVec.toNat_xor, BitVec.toNat_not, toNat_ofInt_big, wrapF_eq, bits_big] <;> rfl
end
end Go.Ax
