/-
  OWN WORK, A PART: an abstract machine for the program's text that the kernel can run, and the proof that it is sound: what it answers is what the program answers; contracts of functions by it. No condition.
-/
import Derived.Test.YtlnohbilfogheaaPrF
import Derived.Test.YtlnohbilfogheaaRows
import Derived.KernelRfl
import Derived.WalkKit
import Derived.ProofKit
import Derived.Test.YtlnohbilfogheaaQsM
import Derived.OpenShut
import Derived.ShutString
import Derived.ChangeOld
import Derived.ChangeSlices
import Derived.Below
import Derived.Deep.SlicePairs
import Derived.Deep.Grids
import Derived.WideKeyArgs
section
section
namespace Go.Ax
section
def W (x : Int) : Prop := ∃ m : Nat, m < 4294967296 ∧ x = .ofNat m
theorem wrap32 (z : Int) : wrapF .u32 z = .ofNat (modN z 4294967296) := by
  unfold wrapF
  have h : modN z 4294967296 < 4294967296 := by
    cases z with
    | ofNat m => exact Nat.mod_lt _ (by omega)
    | negSucc m => show 4294967296 - 1 - m % 4294967296 < 4294967296; omega
  have hb : Nat.blt (modN z (big .u32)) (half .u32) = true := by
    rw [Nat.blt_eq]; exact h
  show (bif Nat.blt (modN z (big .u32)) (half .u32) then Int.ofNat (modN z (big .u32)) else _) = _
  rw [hb]; rfl
theorem modN_lt (z : Int) : modN z 4294967296 < 4294967296 := by
  cases z with
  | ofNat m => exact Nat.mod_lt _ (by omega)
  | negSucc m => show 4294967296 - 1 - m % 4294967296 < 4294967296; omega
theorem W_wrap (z : Int) : W (wrapF .u32 z) := ⟨_, modN_lt z, wrap32 z⟩
theorem W_nat {m : Nat} (h : m < 4294967296) : W (.ofNat m) := ⟨m, h, rfl⟩
theorem wrap_W {x : Int} (h : W x) : wrapF .u32 x = x := by
  obtain ⟨m, hm, rfl⟩ := h
  rw [wrap32]
  show Int.ofNat (m % 4294967296) = _
  rw [Nat.mod_eq_of_lt hm]
def rotR (x : Int) (n : Nat) : Int := addI (shrF x n) (shlF .u32 x (32 - n))
def notR (e : Int) : Int := wrapF .u32 (4294967295 - e)
def mulI (x y : Int) : Int := wrapF .u32 (x * y)
def divI (x y : Int) : Int := wrapF .u32 (x.tdiv y)
theorem rot_eq {x : Int} (h : W x) {n : Nat} (h1 : 0 < n) (h2 : n < 32) : rotR x n = rotI x n := by
  obtain ⟨m, hm, rfl⟩ := h
  unfold rotR rotI addI orI
  have e1 : shrF (.ofNat m) n = .ofNat (m / 2 ^ n) := rfl
  have e2 : shlF .u32 (.ofNat m) (32 - n) = .ofNat (m % 2 ^ n * 2 ^ (32 - n)) := by
    show wrapF .u32 (.ofNat (m * 2 ^ (32 - n))) = _
    rw [wrap32]
    show Int.ofNat (m * 2 ^ (32 - n) % 4294967296) = _
    have : (4294967296 : Nat) = 2 ^ n * 2 ^ (32 - n) := by rw [← Nat.pow_add, show n + (32 - n) = 32 by omega]
    rw [this, Nat.mul_mod_mul_right]
  have h3 : m / 2 ^ n < 2 ^ (32 - n) := by
    rw [Nat.div_lt_iff_lt_mul (Nat.two_pow_pos n), ← Nat.pow_add, show 32 - n + n = 32 by omega]; exact hm
  have h4 : m % 2 ^ n * 2 ^ (32 - n) < 4294967296 := by
    have : m % 2 ^ n < 2 ^ n := Nat.mod_lt _ (Nat.two_pow_pos n)
    have h5 : m % 2 ^ n * 2 ^ (32 - n) < 2 ^ n * 2 ^ (32 - n) := Nat.mul_lt_mul_of_pos_right this (Nat.two_pow_pos _)
    rw [← Nat.pow_add, show n + (32 - n) = 32 by omega] at h5
    exact h5
  have h5 : m / 2 ^ n < 4294967296 := Nat.lt_of_le_of_lt (Nat.div_le_self _ _) hm
  rw [e1, e2]
  have e3 : modN (.ofNat (m % 2 ^ n * 2 ^ (32 - n))) 4294967296 = m % 2 ^ n * 2 ^ (32 - n) := Nat.mod_eq_of_lt h4
  have e4 : modN (.ofNat (m / 2 ^ n)) 4294967296 = m / 2 ^ n := Nat.mod_eq_of_lt h5
  rw [e3, e4]
  congr 1
  have := Nat.two_pow_add_eq_or_of_lt h3 (m % 2 ^ n)
  show Int.ofNat (m / 2 ^ n + m % 2 ^ n * 2 ^ (32 - n)) = Int.ofNat (m % 2 ^ n * 2 ^ (32 - n) ||| m / 2 ^ n)
  rw [Nat.mul_comm (m % 2 ^ n), ← this, Nat.add_comm]
theorem not_eq {x : Int} (h : W x) : notR x = notI x := by
  obtain ⟨m, hm, rfl⟩ := h
  unfold notR notI
  congr 1
  have e1 : modN (.ofNat m) 4294967296 = m := Nat.mod_eq_of_lt hm
  have e2 : modN 4294967295 4294967296 = 4294967295 := rfl
  rw [e1, e2]
  have key : 4294967295 ^^^ m = 4294967295 - m := by
    have h1 := congrArg BitVec.toNat (BitVec.allOnes_xor (x := BitVec.ofNat 32 m))
    rw [BitVec.toNat_xor, BitVec.toNat_not, BitVec.toNat_allOnes, BitVec.toNat_ofNat, Nat.mod_eq_of_lt (show m < 2 ^ 32 from hm)] at h1
    exact h1
  show (4294967295 : Int) - Int.ofNat m = Int.ofNat (4294967295 ^^^ m)
  rw [key]
  show (4294967295 : Int) - (m : Int) = ((4294967295 - m : Nat) : Int)
  omega
theorem div_eq {x : Int} (h : W x) (n : Nat) : divI x (.ofNat (2 ^ n)) = shrF x n := by
  obtain ⟨m, hm, rfl⟩ := h
  unfold divI
  have : (Int.ofNat m).tdiv (.ofNat (2 ^ n)) = .ofNat (m / 2 ^ n) := rfl
  rw [this]
  exact wrap_W (W_nat (Nat.lt_of_le_of_lt (Nat.div_le_self _ _) hm))
theorem add_comm' (x y : Int) : addI x y = addI y x := by unfold addI; rw [Int.add_comm]
def nextR (w16 x w7 y : Int) : Int := addI (addI (addI w16 (xorI (xorI (rotR x 7) (rotR x 18)) (divI x (.ofNat 8)))) w7) (xorI (xorI (rotR y 17) (rotR y 19)) (divI y (.ofNat 1024)))
def extR : Nat → List Int → List Int
  | 0, l => l
  | n + 1, l => extR n (nextR (l.getD 15 0) (l.getD 14 0) (l.getD 6 0) (l.getD 1 0) :: l)
def rndR (k w : Int) (s : S8) : S8 :=
  match s with
  | ⟨a, b, c, d, e, f, g, h⟩ =>
    let x := addI (addI (addI (addI h (xorI (xorI (rotR e 6) (rotR e 11)) (rotR e 25))) (xorI (andI e f) (andI (notR e) g))) k) w
    let y := addI (xorI (xorI (rotR a 2) (rotR a 13)) (rotR a 22)) (xorI (xorI (andI a b) (andI a c)) (andI b c))
    ⟨addI x y, a, b, c, addI d x, e, f, g⟩
def rndsR : List Int → List Int → S8 → S8
  | k :: ks, w :: ws, s => rndsR ks ws (rndR k w s)
  | _, _, s => s
def wordR (a b c d : Int) : Int := addI (addI (addI (mulI (wrapF .u32 a) 16777216) (mulI (wrapF .u32 b) 65536)) (mulI (wrapF .u32 c) 256)) (wrapF .u32 d)
def wordsR : List Int → List Int → List Int
  | a :: b :: c :: d :: l, acc => wordsR l (wordR a b c d :: acc)
  | _, acc => acc
def pressR (s : S8) (bs : List Int) : S8 :=
  match rndsR shaK (extR 48 (wordsR bs [])).reverse s with
  | ⟨a, b, c, d, e, f, g, h⟩ => ⟨addI s.a a, addI s.b b, addI s.c c, addI s.d d, addI s.e e, addI s.f f, addI s.g g, addI s.h h⟩
theorem next_eq {w16 x w7 y : Int} (hx : W x) (hy : W y) : nextR w16 x w7 y = nextW w16 x w7 y := by
  unfold nextR nextW
  rw [rot_eq hx (by omega) (by omega), rot_eq hx (by omega) (by omega), rot_eq hy (by omega) (by omega), rot_eq hy (by omega) (by omega), show (Int.ofNat 8) = .ofNat (2 ^ 3) from rfl, show (Int.ofNat 1024) = .ofNat (2 ^ 10) from rfl, div_eq hx 3, div_eq hy 10]
theorem W_getD {l : List Int} (h : ∀ x, x ∈ l → W x) (i : Nat) : W (l.getD i 0) := by
  rw [List.getD_eq_getElem?_getD]
  cases e : l[i]? with
  | none => exact W_nat (m := 0) (by omega)
  | some x => exact h x (List.mem_of_getElem? e)
theorem ext_eq : ∀ (n : Nat) {l : List Int}, (∀ x, x ∈ l → W x) → extR n l = extW n l ∧ ∀ x, x ∈ extW n l → W x
  | 0, l, h => ⟨rfl, h⟩
  | n + 1, l, h => by
    have e := next_eq (w16 := l.getD 15 0) (w7 := l.getD 6 0) (W_getD h 14) (W_getD h 1)
    have h2 : ∀ x, x ∈ nextW (l.getD 15 0) (l.getD 14 0) (l.getD 6 0) (l.getD 1 0) :: l → W x := fun x hx => by
      rcases List.mem_cons.1 hx with rfl | hx
      · exact W_wrap _
      · exact h x hx
    obtain ⟨i1, i2⟩ := ext_eq n h2
    exact ⟨by show extR n (nextR _ _ _ _ :: l) = extW n (nextW _ _ _ _ :: l); rw [e]; exact i1, i2⟩
def WS (s : S8) : Prop := W s.a ∧ W s.b ∧ W s.c ∧ W s.d ∧ W s.e ∧ W s.f ∧ W s.g ∧ W s.h
theorem rnd_eq {k w : Int} {s : S8} (h : WS s) : rndR k w s = rnd k w s ∧ WS (rnd k w s) := by
  obtain ⟨a, b, c, d, e, f, g, hh⟩ := s
  obtain ⟨ha, hb, hc, hd, he, hf, hg, hh'⟩ := h
  constructor
  · unfold rndR rnd
    simp only
    rw [rot_eq he (by omega) (by omega), rot_eq he (by omega) (by omega), rot_eq he (by omega) (by omega), rot_eq ha (by omega) (by omega), rot_eq ha (by omega) (by omega), rot_eq ha (by omega) (by omega), not_eq he]
  · exact ⟨W_wrap _, ha, hb, hc, W_wrap _, he, hf, hg⟩
theorem rnds_eq : ∀ (ks ws : List Int) {s : S8}, WS s → rndsR ks ws s = rnds ks ws s ∧ WS (rnds ks ws s)
  | [], ws, s, h => ⟨rfl, h⟩
  | k :: ks, [], s, h => ⟨rfl, h⟩
  | k :: ks, w :: ws, s, h => by
    obtain ⟨e, h2⟩ := rnd_eq (k := k) (w := w) h
    obtain ⟨i1, i2⟩ := rnds_eq ks ws h2
    exact ⟨by show rndsR ks ws (rndR k w s) = rnds ks ws (rnd k w s); rw [e]; exact i1, i2⟩
def By (x : Int) : Prop := ∃ m : Nat, m < 256 ∧ x = .ofNat m
theorem byte_W {x : Int} (h : By x) : W x := by obtain ⟨m, hm, rfl⟩ := h; exact W_nat (by omega)
theorem or_step {n b : Nat} (hn : n < 16777216) (hb : b < 256) : orI (shlF .u32 (.ofNat n) 8) (.ofNat b) = .ofNat (n * 256 + b) := by
  have e1 : shlF .u32 (.ofNat n) 8 = .ofNat (n * 256) := by
    have e0 : shlF .u32 (.ofNat n) 8 = wrapF .u32 (.ofNat (n * 2 ^ 8)) := rfl
    rw [e0, show n * 2 ^ 8 = n * 256 by omega]
    exact wrap_W (W_nat (m := n * 256) (by omega))
  unfold orI
  rw [e1]
  have e3 : modN (.ofNat (n * 256)) 4294967296 = n * 256 := Nat.mod_eq_of_lt (by omega)
  have e4 : modN (.ofNat b) 4294967296 = b := Nat.mod_eq_of_lt (by omega)
  rw [e3, e4]
  have e5 : Nat.lor (n * 256) b = n * 256 + b := by
    have := Nat.two_pow_add_eq_or_of_lt (i := 8) (show b < 2 ^ 8 from hb) n
    rw [show (2 ^ 8 * n : Nat) = n * 256 by omega] at this
    exact this.symm
  rw [e5]
  exact wrap_W (W_nat (m := n * 256 + b) (by omega))
theorem word_eq {a b c d : Int} (ha : By a) (hb : By b) (hc : By c) (hd : By d) : wordR a b c d = wordZ a b c d ∧ W (wordZ a b c d) := by
  obtain ⟨a, ha, rfl⟩ := ha
  obtain ⟨b, hb, rfl⟩ := hb
  obtain ⟨c, hc, rfl⟩ := hc
  obtain ⟨d, hd, rfl⟩ := hd
  have e : wordZ (.ofNat a) (.ofNat b) (.ofNat c) (.ofNat d) = .ofNat (((a * 256 + b) * 256 + c) * 256 + d) := by
    unfold wordZ
    rw [wrap_W (byte_W ⟨a, ha, rfl⟩), wrap_W (byte_W ⟨b, hb, rfl⟩), wrap_W (byte_W ⟨c, hc, rfl⟩), wrap_W (byte_W ⟨d, hd, rfl⟩)]
    have s1 : orI (shlF .u32 0 8) (.ofNat a) = .ofNat (0 * 256 + a) := or_step (n := 0) (b := a) (by omega) ha
    have s2 := or_step (n := 0 * 256 + a) (b := b) (by omega) hb
    have s3 := or_step (n := (0 * 256 + a) * 256 + b) (b := c) (by omega) hc
    have s4 := or_step (n := ((0 * 256 + a) * 256 + b) * 256 + c) (b := d) (by omega) hd
    rw [s1, s2, s3, s4]
    exact congrArg Int.ofNat (by omega)
  refine ⟨?_, by rw [e]; exact W_nat (by omega)⟩
  rw [e]
  unfold wordR mulI addI
  rw [wrap_W (byte_W ⟨a, ha, rfl⟩), wrap_W (byte_W ⟨b, hb, rfl⟩), wrap_W (byte_W ⟨c, hc, rfl⟩), wrap_W (byte_W ⟨d, hd, rfl⟩)]
  have m1 : (Int.ofNat a) * 16777216 = Int.ofNat (a * 16777216) := by
    show ((a : Nat) : Int) * 16777216 = ((a * 16777216 : Nat) : Int); omega
  have m2 : (Int.ofNat b) * 65536 = Int.ofNat (b * 65536) := by
    show ((b : Nat) : Int) * 65536 = ((b * 65536 : Nat) : Int); omega
  have m3 : (Int.ofNat c) * 256 = Int.ofNat (c * 256) := by
    show ((c : Nat) : Int) * 256 = ((c * 256 : Nat) : Int); omega
  have ad : ∀ x y : Nat, Int.ofNat x + Int.ofNat y = Int.ofNat (x + y) := fun x y => by
    show ((x : Nat) : Int) + ((y : Nat) : Int) = ((x + y : Nat) : Int); omega
  rw [m1, m2, m3, wrap_W (W_nat (m := a * 16777216) (by omega)), wrap_W (W_nat (m := b * 65536) (by omega)), wrap_W (W_nat (m := c * 256) (by omega))]
  rw [ad, wrap_W (W_nat (m := a * 16777216 + b * 65536) (by omega)), ad, wrap_W (W_nat (m := a * 16777216 + b * 65536 + c * 256) (by omega)), ad, wrap_W (W_nat (m := a * 16777216 + b * 65536 + c * 256 + d) (by omega))]
  exact congrArg Int.ofNat (by omega)
theorem words_eq : ∀ (l acc : List Int), (∀ x, x ∈ l → By x) → (∀ x, x ∈ acc → W x) → wordsR l acc = wordsZ l acc ∧ ∀ x, x ∈ wordsZ l acc → W x
  | a :: b :: c :: d :: l, acc, h, ha => by
    obtain ⟨e, w⟩ := word_eq (h a (by simp)) (h b (by simp)) (h c (by simp)) (h d (by simp))
    have h2 : ∀ x, x ∈ wordZ a b c d :: acc → W x := fun x hx => by
      rcases List.mem_cons.1 hx with rfl | hx
      · exact w
      · exact ha x hx
    obtain ⟨i1, i2⟩ := words_eq l (wordZ a b c d :: acc) (fun x hx => h x (by simp [hx])) h2
    exact ⟨by show wordsR l (wordR a b c d :: acc) = _; rw [e]; exact i1, i2⟩
  | [], acc, _, ha => ⟨rfl, ha⟩
  | [_], acc, _, ha => ⟨rfl, ha⟩
  | [_, _], acc, _, ha => ⟨rfl, ha⟩
  | [_, _, _], acc, _, ha => ⟨rfl, ha⟩
theorem press_eq {s : S8} {bs : List Int} (hs : WS s) (hb : ∀ x, x ∈ bs → By x) : pressR s bs = pressZ s bs ∧ WS (pressZ s bs) := by
  obtain ⟨e1, w1⟩ := words_eq bs [] hb (fun x hx => by cases hx)
  obtain ⟨e2, w2⟩ := ext_eq 48 w1
  obtain ⟨e3, w3⟩ := rnds_eq shaK (extW 48 (wordsZ bs [])).reverse hs
  constructor
  · unfold pressR pressZ
    rw [e1, e2, e3]
    cases rnds shaK (extW 48 (wordsZ bs [])).reverse s with
    | mk a b c d e f g h =>
      simp only
      rw [add_comm' s.a, add_comm' s.b, add_comm' s.c, add_comm' s.d, add_comm' s.e, add_comm' s.f, add_comm' s.g, add_comm' s.h]
  · unfold pressZ
    cases rnds shaK (extW 48 (wordsZ bs [])).reverse s with
    | mk a b c d e f g h => exact ⟨W_wrap _, W_wrap _, W_wrap _, W_wrap _, W_wrap _, W_wrap _, W_wrap _, W_wrap _⟩
end
end Go.Ax
end
section
open Go Go.Ax Go.Proofs.Ytlnohbilfogheaa
namespace Go.Proofs.Ytlnohbilfogheaa.rsm
noncomputable def fns : List (Nat × Func) := [(95, Try.f95), (151, Try.f151), (126, Try.f126), (152, Try.f152)]
noncomputable def E : Env := envEx Try.prog (List.range 190) fns []
def fl0 : Fl := ⟨[], [], [], []⟩
theorem fnsOk : AllFn Try.prog fns := ⟨⟨Try.func95, Try.call95⟩, ⟨Try.func151, Try.call151⟩, ⟨Try.func126, Try.call126⟩, ⟨Try.func152, Try.call152⟩, trivial⟩
theorem mixed : Try.prog.follows .mixedOrders = true := by kernel_rfl
theorem Eok : Env.Ok Try.prog E := envEx_ok (xs := []) fnsOk trivial mixed
noncomputable def c16 : Code := Option.getD Try.f126.body .skip
def rowB (b : Nat → Int) : List AV := (List.range 64).map fun i => .int .u8 (b i)
def rowW (w : Nat → Int) : List AV := (List.range 64).map fun i => .int .u32 (w i)
def rowS (s : S8) : List AV := [.int .u32 s.a, .int .u32 s.b, .int .u32 s.c, .int .u32 s.d, .int .u32 s.e, .int .u32 s.f, .int .u32 s.g, .int .u32 s.h]
noncomputable def fr (args : List AV) (n : Nat) : AFr := { m := putArgs args 0 .e, n := n, defs := [] }
def slB (c : Cap) : AV := .slice (some (0, 0)) 64 c
def nI (n : Nat) : AV := .int .i64 (.ofNat n)
noncomputable def st0 (b : Nat → Int) : ASt := mkSt [(0, .cells (rowB b) false)] 1
noncomputable def tA (b : Nat → Int) (s : S8) (c : Cap) : Tr (Exit × AFr × ASt) := (TM E noSum [] fl0 80).ex fl0 none (preC 2 c16) (fr [.agg (rowS s), slB c] 212) (st0 b)
end Go.Proofs.Ytlnohbilfogheaa.rsm
end
section
open Go Go.Ax Go.Proofs.Ytlnohbilfogheaa
namespace Go.Proofs.Ytlnohbilfogheaa.rsm
set_option linter.unusedVariables false
noncomputable def LA : Code := lopB (blkB (seqR (seqL (dropC 2 c16))))
noncomputable def LB : Code := lopB (blkB (seqR (seqL (dropC 5 c16))))
def zs8 : List AV := (List.range 8).map fun _ => .int .u32 (.ofNat 0)
def ksL : List AV := shaK.map fun z => .int .u32 z
noncomputable def frA (c : Cap) (x : List (Nat × AV)) : AFr := xFr ([(1, slB c), (2, .ptr (some (1, 0))), (4, .ptr (some (2, 0))), (5, .ptr (some (3, 0))), (6, .ptr (some (4, 0)))] ++ x) 212
noncomputable def stA (b : Nat → Int) (s : S8) (w : Nat → Int) (n : Nat) : ASt := mkSt [(0, .cells (rowB b) false), (1, .cells (rowS s) true), (2, .cells zs8 true), (3, .cells ksL true), (4, .cells (rowW w) true)] n
noncomputable def frB (c : Cap) (s : S8) (x : List (Nat × AV)) : AFr := frA c ([(10, .int .u32 s.a), (11, .int .u32 s.b), (12, .int .u32 s.c), (13, .int .u32 s.d), (14, .int .u32 s.e), (15, .int .u32 s.f), (16, .int .u32 s.g), (17, .int .u32 s.h)] ++ x)
def flA : Fl := ⟨[], [28, 71], [], []⟩
def kA : List Nat := [1, 2, 4, 5, 6, 7]
def kB : List Nat := [1, 2, 4, 5, 6, 10, 11, 12, 13, 14, 15, 16, 17]
def kB2 : List Nat := [1, 2, 4, 5, 6, 10, 11, 12, 13, 14, 15, 16, 17, 18]
def kO : List Nat := [0, 1, 2, 3, 4]
def upd (w : Nat → Int) (i : Nat) (v : Int) (j : Nat) : Int := bif Nat.beq j i then v else w j
def h8 (x y : Int) : Prop := holdsO [(some (AV.int IntKind.u32 x), AV.int IntKind.u32 x), (some (AV.int IntKind.u32 x), AV.int IntKind.u32 x), (some (AV.int IntKind.u32 x), AV.int IntKind.u32 x), (some (AV.int IntKind.u32 x), AV.int IntKind.u32 x), (some (AV.int IntKind.u32 y), AV.int IntKind.u32 y), (some (AV.int IntKind.u32 y), AV.int IntKind.u32 y), (some (AV.int IntKind.u32 y), AV.int IntKind.u32 y), (some (AV.int IntKind.u32 y), AV.int IntKind.u32 y)]
def fstO : Option (AV × ASt) → Option AV
  | some (v, _) => some v
  | none => none
noncomputable def tA2 (b : Nat → Int) (s : S8) (w : Nat → Int) (c : Cap) : Tr (Exit × AFr × ASt) := (TM E noSum [] fl0 80).ex fl0 none (seqL (seqL (dropC 2 c16))) (frA c []) (stA b s w 5)
noncomputable def tL (i : Nat) (b : Nat → Int) (s : S8) (w : Nat → Int) (c : Cap) : Tr (Exit × AFr × ASt) := (TM E noSum [] fl0 80).ex flA none LA (frA c [(7, nI i)]) (stA b s w 5)
noncomputable def tM (b : Nat → Int) (s : S8) (w : Nat → Int) (c : Cap) : Tr (Exit × AFr × ASt) := (TM E noSum [] fl0 80).ex fl0 none (preC 1 (dropC 3 c16)) (frA c [(7, nI 64)]) (stA b s w 5)
noncomputable def tM2 (b : Nat → Int) (s : S8) (w : Nat → Int) (c : Cap) (s' : S8) : Tr (Exit × AFr × ASt) := (TM E noSum [] fl0 80).ex fl0 none (seqL (seqL (dropC 5 c16))) (frB c s' []) (stA b s w 5)
noncomputable def tB (b : Nat → Int) (s : S8) (w : Nat → Int) (c : Cap) (s' : S8) (i : Nat) (kk ww : Int) : Tr (Exit × AFr × ASt) := (TM E noSum [] fl0 80).ex ⟨[140, 141, 144, 145], [120], [117], []⟩ none LB (frB c s' [(18, nI i)]) (stA b s w 5)
noncomputable def tE (b : Nat → Int) (s : S8) (w : Nat → Int) (c : Cap) (s' : S8) (i : Nat) : Tr (Exit × AFr × ASt) := (TM E noSum [] fl0 80).ex ⟨[], [179], [], []⟩ none (dropC 6 c16) (frB c s' [(18, nI i)]) (stA b s w 5)
theorem vcA2 (b : Nat → Int) (s : S8) (w : Nat → Int) (c : Cap) (Q : Exit × AFr × ASt → Prop) : Q (.normal, frA c [(7, nI 0)], stA b s w 5) = (tA2 b s w c).allY (fun r => Q (canR kA kO r)) .nil := by kernel_rfl
theorem vcM (b : Nat → Int) (s : S8) (w : Nat → Int) (c : Cap) (Q : Exit × AFr × ASt → Prop) : Q (.normal, frB c s [], stA b s w 29) = (tM b s w c).allY (fun r => Q (canR kB kO r)) .nil := by kernel_rfl
theorem vcM2 (b : Nat → Int) (s : S8) (w : Nat → Int) (c : Cap) (s' : S8) (Q : Exit × AFr × ASt → Prop) : Q (.normal, frB c s' [(18, nI 0)], stA b s w 5) = (tM2 b s w c s').allY (fun r => Q (canR kB2 kO r)) .nil := by kernel_rfl
def h6 (b : Nat → Int) (s : S8) (w : Nat → Int) (i : Nat) (kk ww : Int) : Prop := holdsO [(fstO (aLoad E 134 (AV.ptr (some (3, 0 + i * 1))) (stA b s w 33)), .int .u32 kk), (fstO (aLoad E 134 (AV.ptr (some (3, 0 + i * 1))) (stA b s w 33)), .int .u32 kk), (fstO (aLoad E 134 (AV.ptr (some (3, 0 + i * 1))) (stA b s w 33)), .int .u32 kk), (fstO (aLoad E 134 (AV.ptr (some (4, 0 + i * 1))) (stA b s w 33)), .int .u32 ww), (fstO (aLoad E 134 (AV.ptr (some (4, 0 + i * 1))) (stA b s w 33)), .int .u32 ww), (fstO (aLoad E 134 (AV.ptr (some (4, 0 + i * 1))) (stA b s w 33)), .int .u32 ww)]
def rndX (k w : Int) (s : S8) : S8 :=
  ⟨addI (addI (addI (addI (addI s.h (xorI (xorI (rotR s.e 6) (rotR s.e 11)) (rotR s.e 25))) (xorI (andI s.e s.f) (andI (notR s.e) s.g))) k) w) (addI (xorI (xorI (rotR s.a 2) (rotR s.a 13)) (rotR s.a 22)) (xorI (xorI (andI s.a s.b) (andI s.a s.c)) (andI s.b s.c))), s.a, s.b, s.c,
   addI s.d (addI (addI (addI (addI s.h (xorI (xorI (rotR s.e 6) (rotR s.e 11)) (rotR s.e 25))) (xorI (andI s.e s.f) (andI (notR s.e) s.g))) k) w), s.e, s.f, s.g⟩
theorem rndX_eq (k w : Int) (s : S8) : rndX k w s = rndR k w s := by obtain ⟨a, b, c, d, e, f, g, h⟩ := s; rfl
theorem vcB (b : Nat → Int) (s : S8) (w : Nat → Int) (c : Cap) (s' : S8) (i : Nat) (kk ww : Int) (Q : Exit × AFr × ASt → Prop) :
  ifB (ltF (.ofNat i) (.ofNat 64)) (still (stA b s w 33) (aIndexAddr E 135 (.ptr (some (3, 0))) (nI i)) = some (.ptr (some (3, 0 + i * 1)), stA b s w 33) ∧ aLoad E 134 (.ptr (some (3, 0 + i * 1))) (stA b s w 33) = some (.int .u32 kk, stA b s w 33) ∧
    still (stA b s w 33) (aIndexAddr E 135 (.ptr (some (4, 0))) (nI i)) = some (.ptr (some (4, 0 + i * 1)), stA b s w 33) ∧ aLoad E 134 (.ptr (some (4, 0 + i * 1))) (stA b s w 33) = some (.int .u32 ww, stA b s w 33) ∧ h6 b s w i kk ww ∧
    Q (.normal, frB c (rndX kk ww s') [(18, .int .i64 (wrapF .i64 (.ofNat i + .ofNat 1)))], stA b s w 33)) (Q (.exit 2, frB c s' [(18, nI i)], stA b s w 5)) =
  (tB b s w c s' i kk ww).allY (fun r => Q (canR kB2 kO r)) (.b (.v (.ptr (some (3, 0 + i * 1)), stA b s w 33) (.v (.int .u32 kk, stA b s w 33) (.v (.ptr (some (4, 0 + i * 1)), stA b s w 33) (.v (.int .u32 ww, stA b s w 33) .nil)))) .nil) := by kernel_rfl
theorem vcE (b : Nat → Int) (s : S8) (w : Nat → Int) (c : Cap) (s' : S8) (i : Nat) (Q : Exit × Option AV → Prop) :
  Q (.ret, some (.agg [.int .u32 (addI s.a s'.a), .int .u32 (addI s.b s'.b), .int .u32 (addI s.c s'.c), .int .u32 (addI s.d s'.d), .int .u32 (addI s.e s'.e), .int .u32 (addI s.f s'.f), .int .u32 (addI s.g s'.g), .int .u32 (addI s.h s'.h)])) =
  (tE b s w c s' i).allY (fun r => Q (r.1, ans (leaveA E Try.f126 r.2.1 r.2.2))) .nil := by kernel_rfl
def val (b w : Nat → Int) (i : Nat) : Int := bif Nat.blt i 16 then wordR (b (4 * i)) (b (4 * i + 1)) (b (4 * i + 2)) (b (4 * i + 3)) else nextR (w (i - 16)) (w (i - 15)) (w (i - 7)) (w (i - 2))
theorem vcL0 (b : Nat → Int) (s : S8) (w : Nat → Int) (c : Cap) (Q : Exit × AFr × ASt → Prop) : (holdsO [] ∧ Q (.normal, frA c [(7, nI 1)], stA b s (upd w 0 (val b w 0)) 41)) = (tL 0 b s w c).allY (fun r => Q (canR kA kO r)) .nil := by kernel_rfl
theorem vcL1 (b : Nat → Int) (s : S8) (w : Nat → Int) (c : Cap) (Q : Exit × AFr × ASt → Prop) : (holdsO [] ∧ Q (.normal, frA c [(7, nI 2)], stA b s (upd w 1 (val b w 1)) 41)) = (tL 1 b s w c).allY (fun r => Q (canR kA kO r)) .nil := by kernel_rfl
theorem vcL2 (b : Nat → Int) (s : S8) (w : Nat → Int) (c : Cap) (Q : Exit × AFr × ASt → Prop) : (holdsO [] ∧ Q (.normal, frA c [(7, nI 3)], stA b s (upd w 2 (val b w 2)) 41)) = (tL 2 b s w c).allY (fun r => Q (canR kA kO r)) .nil := by kernel_rfl
theorem vcL3 (b : Nat → Int) (s : S8) (w : Nat → Int) (c : Cap) (Q : Exit × AFr × ASt → Prop) : (holdsO [] ∧ Q (.normal, frA c [(7, nI 4)], stA b s (upd w 3 (val b w 3)) 41)) = (tL 3 b s w c).allY (fun r => Q (canR kA kO r)) .nil := by kernel_rfl
theorem vcL4 (b : Nat → Int) (s : S8) (w : Nat → Int) (c : Cap) (Q : Exit × AFr × ASt → Prop) : (holdsO [] ∧ Q (.normal, frA c [(7, nI 5)], stA b s (upd w 4 (val b w 4)) 41)) = (tL 4 b s w c).allY (fun r => Q (canR kA kO r)) .nil := by kernel_rfl
theorem vcL5 (b : Nat → Int) (s : S8) (w : Nat → Int) (c : Cap) (Q : Exit × AFr × ASt → Prop) : (holdsO [] ∧ Q (.normal, frA c [(7, nI 6)], stA b s (upd w 5 (val b w 5)) 41)) = (tL 5 b s w c).allY (fun r => Q (canR kA kO r)) .nil := by kernel_rfl
theorem vcL6 (b : Nat → Int) (s : S8) (w : Nat → Int) (c : Cap) (Q : Exit × AFr × ASt → Prop) : (holdsO [] ∧ Q (.normal, frA c [(7, nI 7)], stA b s (upd w 6 (val b w 6)) 41)) = (tL 6 b s w c).allY (fun r => Q (canR kA kO r)) .nil := by kernel_rfl
theorem vcL7 (b : Nat → Int) (s : S8) (w : Nat → Int) (c : Cap) (Q : Exit × AFr × ASt → Prop) : (holdsO [] ∧ Q (.normal, frA c [(7, nI 8)], stA b s (upd w 7 (val b w 7)) 41)) = (tL 7 b s w c).allY (fun r => Q (canR kA kO r)) .nil := by kernel_rfl
theorem vcL8 (b : Nat → Int) (s : S8) (w : Nat → Int) (c : Cap) (Q : Exit × AFr × ASt → Prop) : (holdsO [] ∧ Q (.normal, frA c [(7, nI 9)], stA b s (upd w 8 (val b w 8)) 41)) = (tL 8 b s w c).allY (fun r => Q (canR kA kO r)) .nil := by kernel_rfl
theorem vcL9 (b : Nat → Int) (s : S8) (w : Nat → Int) (c : Cap) (Q : Exit × AFr × ASt → Prop) : (holdsO [] ∧ Q (.normal, frA c [(7, nI 10)], stA b s (upd w 9 (val b w 9)) 41)) = (tL 9 b s w c).allY (fun r => Q (canR kA kO r)) .nil := by kernel_rfl
theorem vcL10 (b : Nat → Int) (s : S8) (w : Nat → Int) (c : Cap) (Q : Exit × AFr × ASt → Prop) : (holdsO [] ∧ Q (.normal, frA c [(7, nI 11)], stA b s (upd w 10 (val b w 10)) 41)) = (tL 10 b s w c).allY (fun r => Q (canR kA kO r)) .nil := by kernel_rfl
theorem vcL11 (b : Nat → Int) (s : S8) (w : Nat → Int) (c : Cap) (Q : Exit × AFr × ASt → Prop) : (holdsO [] ∧ Q (.normal, frA c [(7, nI 12)], stA b s (upd w 11 (val b w 11)) 41)) = (tL 11 b s w c).allY (fun r => Q (canR kA kO r)) .nil := by kernel_rfl
theorem vcL12 (b : Nat → Int) (s : S8) (w : Nat → Int) (c : Cap) (Q : Exit × AFr × ASt → Prop) : (holdsO [] ∧ Q (.normal, frA c [(7, nI 13)], stA b s (upd w 12 (val b w 12)) 41)) = (tL 12 b s w c).allY (fun r => Q (canR kA kO r)) .nil := by kernel_rfl
theorem vcL13 (b : Nat → Int) (s : S8) (w : Nat → Int) (c : Cap) (Q : Exit × AFr × ASt → Prop) : (holdsO [] ∧ Q (.normal, frA c [(7, nI 14)], stA b s (upd w 13 (val b w 13)) 41)) = (tL 13 b s w c).allY (fun r => Q (canR kA kO r)) .nil := by kernel_rfl
theorem vcL14 (b : Nat → Int) (s : S8) (w : Nat → Int) (c : Cap) (Q : Exit × AFr × ASt → Prop) : (holdsO [] ∧ Q (.normal, frA c [(7, nI 15)], stA b s (upd w 14 (val b w 14)) 41)) = (tL 14 b s w c).allY (fun r => Q (canR kA kO r)) .nil := by kernel_rfl
theorem vcL15 (b : Nat → Int) (s : S8) (w : Nat → Int) (c : Cap) (Q : Exit × AFr × ASt → Prop) : (holdsO [] ∧ Q (.normal, frA c [(7, nI 16)], stA b s (upd w 15 (val b w 15)) 41)) = (tL 15 b s w c).allY (fun r => Q (canR kA kO r)) .nil := by kernel_rfl
theorem vcL16 (b : Nat → Int) (s : S8) (w : Nat → Int) (c : Cap) (Q : Exit × AFr × ASt → Prop) : (h8 (w 0) (w 9) ∧ Q (.normal, frA c [(7, nI 17)], stA b s (upd w 16 (val b w 16)) 45)) = (tL 16 b s w c).allY (fun r => Q (canR kA kO r)) .nil := by kernel_rfl
theorem vcL17 (b : Nat → Int) (s : S8) (w : Nat → Int) (c : Cap) (Q : Exit × AFr × ASt → Prop) : (h8 (w 1) (w 10) ∧ Q (.normal, frA c [(7, nI 18)], stA b s (upd w 17 (val b w 17)) 45)) = (tL 17 b s w c).allY (fun r => Q (canR kA kO r)) .nil := by kernel_rfl
theorem vcL18 (b : Nat → Int) (s : S8) (w : Nat → Int) (c : Cap) (Q : Exit × AFr × ASt → Prop) : (h8 (w 2) (w 11) ∧ Q (.normal, frA c [(7, nI 19)], stA b s (upd w 18 (val b w 18)) 45)) = (tL 18 b s w c).allY (fun r => Q (canR kA kO r)) .nil := by kernel_rfl
theorem vcL19 (b : Nat → Int) (s : S8) (w : Nat → Int) (c : Cap) (Q : Exit × AFr × ASt → Prop) : (h8 (w 3) (w 12) ∧ Q (.normal, frA c [(7, nI 20)], stA b s (upd w 19 (val b w 19)) 45)) = (tL 19 b s w c).allY (fun r => Q (canR kA kO r)) .nil := by kernel_rfl
theorem vcL20 (b : Nat → Int) (s : S8) (w : Nat → Int) (c : Cap) (Q : Exit × AFr × ASt → Prop) : (h8 (w 4) (w 13) ∧ Q (.normal, frA c [(7, nI 21)], stA b s (upd w 20 (val b w 20)) 45)) = (tL 20 b s w c).allY (fun r => Q (canR kA kO r)) .nil := by kernel_rfl
theorem vcL21 (b : Nat → Int) (s : S8) (w : Nat → Int) (c : Cap) (Q : Exit × AFr × ASt → Prop) : (h8 (w 5) (w 14) ∧ Q (.normal, frA c [(7, nI 22)], stA b s (upd w 21 (val b w 21)) 45)) = (tL 21 b s w c).allY (fun r => Q (canR kA kO r)) .nil := by kernel_rfl
theorem vcL22 (b : Nat → Int) (s : S8) (w : Nat → Int) (c : Cap) (Q : Exit × AFr × ASt → Prop) : (h8 (w 6) (w 15) ∧ Q (.normal, frA c [(7, nI 23)], stA b s (upd w 22 (val b w 22)) 45)) = (tL 22 b s w c).allY (fun r => Q (canR kA kO r)) .nil := by kernel_rfl
theorem vcL23 (b : Nat → Int) (s : S8) (w : Nat → Int) (c : Cap) (Q : Exit × AFr × ASt → Prop) : (h8 (w 7) (w 16) ∧ Q (.normal, frA c [(7, nI 24)], stA b s (upd w 23 (val b w 23)) 45)) = (tL 23 b s w c).allY (fun r => Q (canR kA kO r)) .nil := by kernel_rfl
theorem vcL24 (b : Nat → Int) (s : S8) (w : Nat → Int) (c : Cap) (Q : Exit × AFr × ASt → Prop) : (h8 (w 8) (w 17) ∧ Q (.normal, frA c [(7, nI 25)], stA b s (upd w 24 (val b w 24)) 45)) = (tL 24 b s w c).allY (fun r => Q (canR kA kO r)) .nil := by kernel_rfl
theorem vcL25 (b : Nat → Int) (s : S8) (w : Nat → Int) (c : Cap) (Q : Exit × AFr × ASt → Prop) : (h8 (w 9) (w 18) ∧ Q (.normal, frA c [(7, nI 26)], stA b s (upd w 25 (val b w 25)) 45)) = (tL 25 b s w c).allY (fun r => Q (canR kA kO r)) .nil := by kernel_rfl
theorem vcL26 (b : Nat → Int) (s : S8) (w : Nat → Int) (c : Cap) (Q : Exit × AFr × ASt → Prop) : (h8 (w 10) (w 19) ∧ Q (.normal, frA c [(7, nI 27)], stA b s (upd w 26 (val b w 26)) 45)) = (tL 26 b s w c).allY (fun r => Q (canR kA kO r)) .nil := by kernel_rfl
theorem vcL27 (b : Nat → Int) (s : S8) (w : Nat → Int) (c : Cap) (Q : Exit × AFr × ASt → Prop) : (h8 (w 11) (w 20) ∧ Q (.normal, frA c [(7, nI 28)], stA b s (upd w 27 (val b w 27)) 45)) = (tL 27 b s w c).allY (fun r => Q (canR kA kO r)) .nil := by kernel_rfl
theorem vcL28 (b : Nat → Int) (s : S8) (w : Nat → Int) (c : Cap) (Q : Exit × AFr × ASt → Prop) : (h8 (w 12) (w 21) ∧ Q (.normal, frA c [(7, nI 29)], stA b s (upd w 28 (val b w 28)) 45)) = (tL 28 b s w c).allY (fun r => Q (canR kA kO r)) .nil := by kernel_rfl
theorem vcL29 (b : Nat → Int) (s : S8) (w : Nat → Int) (c : Cap) (Q : Exit × AFr × ASt → Prop) : (h8 (w 13) (w 22) ∧ Q (.normal, frA c [(7, nI 30)], stA b s (upd w 29 (val b w 29)) 45)) = (tL 29 b s w c).allY (fun r => Q (canR kA kO r)) .nil := by kernel_rfl
theorem vcL30 (b : Nat → Int) (s : S8) (w : Nat → Int) (c : Cap) (Q : Exit × AFr × ASt → Prop) : (h8 (w 14) (w 23) ∧ Q (.normal, frA c [(7, nI 31)], stA b s (upd w 30 (val b w 30)) 45)) = (tL 30 b s w c).allY (fun r => Q (canR kA kO r)) .nil := by kernel_rfl
theorem vcL31 (b : Nat → Int) (s : S8) (w : Nat → Int) (c : Cap) (Q : Exit × AFr × ASt → Prop) : (h8 (w 15) (w 24) ∧ Q (.normal, frA c [(7, nI 32)], stA b s (upd w 31 (val b w 31)) 45)) = (tL 31 b s w c).allY (fun r => Q (canR kA kO r)) .nil := by kernel_rfl
theorem vcL32 (b : Nat → Int) (s : S8) (w : Nat → Int) (c : Cap) (Q : Exit × AFr × ASt → Prop) : (h8 (w 16) (w 25) ∧ Q (.normal, frA c [(7, nI 33)], stA b s (upd w 32 (val b w 32)) 45)) = (tL 32 b s w c).allY (fun r => Q (canR kA kO r)) .nil := by kernel_rfl
theorem vcL33 (b : Nat → Int) (s : S8) (w : Nat → Int) (c : Cap) (Q : Exit × AFr × ASt → Prop) : (h8 (w 17) (w 26) ∧ Q (.normal, frA c [(7, nI 34)], stA b s (upd w 33 (val b w 33)) 45)) = (tL 33 b s w c).allY (fun r => Q (canR kA kO r)) .nil := by kernel_rfl
theorem vcL34 (b : Nat → Int) (s : S8) (w : Nat → Int) (c : Cap) (Q : Exit × AFr × ASt → Prop) : (h8 (w 18) (w 27) ∧ Q (.normal, frA c [(7, nI 35)], stA b s (upd w 34 (val b w 34)) 45)) = (tL 34 b s w c).allY (fun r => Q (canR kA kO r)) .nil := by kernel_rfl
theorem vcL35 (b : Nat → Int) (s : S8) (w : Nat → Int) (c : Cap) (Q : Exit × AFr × ASt → Prop) : (h8 (w 19) (w 28) ∧ Q (.normal, frA c [(7, nI 36)], stA b s (upd w 35 (val b w 35)) 45)) = (tL 35 b s w c).allY (fun r => Q (canR kA kO r)) .nil := by kernel_rfl
theorem vcL36 (b : Nat → Int) (s : S8) (w : Nat → Int) (c : Cap) (Q : Exit × AFr × ASt → Prop) : (h8 (w 20) (w 29) ∧ Q (.normal, frA c [(7, nI 37)], stA b s (upd w 36 (val b w 36)) 45)) = (tL 36 b s w c).allY (fun r => Q (canR kA kO r)) .nil := by kernel_rfl
theorem vcL37 (b : Nat → Int) (s : S8) (w : Nat → Int) (c : Cap) (Q : Exit × AFr × ASt → Prop) : (h8 (w 21) (w 30) ∧ Q (.normal, frA c [(7, nI 38)], stA b s (upd w 37 (val b w 37)) 45)) = (tL 37 b s w c).allY (fun r => Q (canR kA kO r)) .nil := by kernel_rfl
theorem vcL38 (b : Nat → Int) (s : S8) (w : Nat → Int) (c : Cap) (Q : Exit × AFr × ASt → Prop) : (h8 (w 22) (w 31) ∧ Q (.normal, frA c [(7, nI 39)], stA b s (upd w 38 (val b w 38)) 45)) = (tL 38 b s w c).allY (fun r => Q (canR kA kO r)) .nil := by kernel_rfl
theorem vcL39 (b : Nat → Int) (s : S8) (w : Nat → Int) (c : Cap) (Q : Exit × AFr × ASt → Prop) : (h8 (w 23) (w 32) ∧ Q (.normal, frA c [(7, nI 40)], stA b s (upd w 39 (val b w 39)) 45)) = (tL 39 b s w c).allY (fun r => Q (canR kA kO r)) .nil := by kernel_rfl
theorem vcL40 (b : Nat → Int) (s : S8) (w : Nat → Int) (c : Cap) (Q : Exit × AFr × ASt → Prop) : (h8 (w 24) (w 33) ∧ Q (.normal, frA c [(7, nI 41)], stA b s (upd w 40 (val b w 40)) 45)) = (tL 40 b s w c).allY (fun r => Q (canR kA kO r)) .nil := by kernel_rfl
theorem vcL41 (b : Nat → Int) (s : S8) (w : Nat → Int) (c : Cap) (Q : Exit × AFr × ASt → Prop) : (h8 (w 25) (w 34) ∧ Q (.normal, frA c [(7, nI 42)], stA b s (upd w 41 (val b w 41)) 45)) = (tL 41 b s w c).allY (fun r => Q (canR kA kO r)) .nil := by kernel_rfl
theorem vcL42 (b : Nat → Int) (s : S8) (w : Nat → Int) (c : Cap) (Q : Exit × AFr × ASt → Prop) : (h8 (w 26) (w 35) ∧ Q (.normal, frA c [(7, nI 43)], stA b s (upd w 42 (val b w 42)) 45)) = (tL 42 b s w c).allY (fun r => Q (canR kA kO r)) .nil := by kernel_rfl
theorem vcL43 (b : Nat → Int) (s : S8) (w : Nat → Int) (c : Cap) (Q : Exit × AFr × ASt → Prop) : (h8 (w 27) (w 36) ∧ Q (.normal, frA c [(7, nI 44)], stA b s (upd w 43 (val b w 43)) 45)) = (tL 43 b s w c).allY (fun r => Q (canR kA kO r)) .nil := by kernel_rfl
theorem vcL44 (b : Nat → Int) (s : S8) (w : Nat → Int) (c : Cap) (Q : Exit × AFr × ASt → Prop) : (h8 (w 28) (w 37) ∧ Q (.normal, frA c [(7, nI 45)], stA b s (upd w 44 (val b w 44)) 45)) = (tL 44 b s w c).allY (fun r => Q (canR kA kO r)) .nil := by kernel_rfl
theorem vcL45 (b : Nat → Int) (s : S8) (w : Nat → Int) (c : Cap) (Q : Exit × AFr × ASt → Prop) : (h8 (w 29) (w 38) ∧ Q (.normal, frA c [(7, nI 46)], stA b s (upd w 45 (val b w 45)) 45)) = (tL 45 b s w c).allY (fun r => Q (canR kA kO r)) .nil := by kernel_rfl
theorem vcL46 (b : Nat → Int) (s : S8) (w : Nat → Int) (c : Cap) (Q : Exit × AFr × ASt → Prop) : (h8 (w 30) (w 39) ∧ Q (.normal, frA c [(7, nI 47)], stA b s (upd w 46 (val b w 46)) 45)) = (tL 46 b s w c).allY (fun r => Q (canR kA kO r)) .nil := by kernel_rfl
theorem vcL47 (b : Nat → Int) (s : S8) (w : Nat → Int) (c : Cap) (Q : Exit × AFr × ASt → Prop) : (h8 (w 31) (w 40) ∧ Q (.normal, frA c [(7, nI 48)], stA b s (upd w 47 (val b w 47)) 45)) = (tL 47 b s w c).allY (fun r => Q (canR kA kO r)) .nil := by kernel_rfl
theorem vcL48 (b : Nat → Int) (s : S8) (w : Nat → Int) (c : Cap) (Q : Exit × AFr × ASt → Prop) : (h8 (w 32) (w 41) ∧ Q (.normal, frA c [(7, nI 49)], stA b s (upd w 48 (val b w 48)) 45)) = (tL 48 b s w c).allY (fun r => Q (canR kA kO r)) .nil := by kernel_rfl
theorem vcL49 (b : Nat → Int) (s : S8) (w : Nat → Int) (c : Cap) (Q : Exit × AFr × ASt → Prop) : (h8 (w 33) (w 42) ∧ Q (.normal, frA c [(7, nI 50)], stA b s (upd w 49 (val b w 49)) 45)) = (tL 49 b s w c).allY (fun r => Q (canR kA kO r)) .nil := by kernel_rfl
theorem vcL50 (b : Nat → Int) (s : S8) (w : Nat → Int) (c : Cap) (Q : Exit × AFr × ASt → Prop) : (h8 (w 34) (w 43) ∧ Q (.normal, frA c [(7, nI 51)], stA b s (upd w 50 (val b w 50)) 45)) = (tL 50 b s w c).allY (fun r => Q (canR kA kO r)) .nil := by kernel_rfl
theorem vcL51 (b : Nat → Int) (s : S8) (w : Nat → Int) (c : Cap) (Q : Exit × AFr × ASt → Prop) : (h8 (w 35) (w 44) ∧ Q (.normal, frA c [(7, nI 52)], stA b s (upd w 51 (val b w 51)) 45)) = (tL 51 b s w c).allY (fun r => Q (canR kA kO r)) .nil := by kernel_rfl
theorem vcL52 (b : Nat → Int) (s : S8) (w : Nat → Int) (c : Cap) (Q : Exit × AFr × ASt → Prop) : (h8 (w 36) (w 45) ∧ Q (.normal, frA c [(7, nI 53)], stA b s (upd w 52 (val b w 52)) 45)) = (tL 52 b s w c).allY (fun r => Q (canR kA kO r)) .nil := by kernel_rfl
theorem vcL53 (b : Nat → Int) (s : S8) (w : Nat → Int) (c : Cap) (Q : Exit × AFr × ASt → Prop) : (h8 (w 37) (w 46) ∧ Q (.normal, frA c [(7, nI 54)], stA b s (upd w 53 (val b w 53)) 45)) = (tL 53 b s w c).allY (fun r => Q (canR kA kO r)) .nil := by kernel_rfl
theorem vcL54 (b : Nat → Int) (s : S8) (w : Nat → Int) (c : Cap) (Q : Exit × AFr × ASt → Prop) : (h8 (w 38) (w 47) ∧ Q (.normal, frA c [(7, nI 55)], stA b s (upd w 54 (val b w 54)) 45)) = (tL 54 b s w c).allY (fun r => Q (canR kA kO r)) .nil := by kernel_rfl
theorem vcL55 (b : Nat → Int) (s : S8) (w : Nat → Int) (c : Cap) (Q : Exit × AFr × ASt → Prop) : (h8 (w 39) (w 48) ∧ Q (.normal, frA c [(7, nI 56)], stA b s (upd w 55 (val b w 55)) 45)) = (tL 55 b s w c).allY (fun r => Q (canR kA kO r)) .nil := by kernel_rfl
theorem vcL56 (b : Nat → Int) (s : S8) (w : Nat → Int) (c : Cap) (Q : Exit × AFr × ASt → Prop) : (h8 (w 40) (w 49) ∧ Q (.normal, frA c [(7, nI 57)], stA b s (upd w 56 (val b w 56)) 45)) = (tL 56 b s w c).allY (fun r => Q (canR kA kO r)) .nil := by kernel_rfl
theorem vcL57 (b : Nat → Int) (s : S8) (w : Nat → Int) (c : Cap) (Q : Exit × AFr × ASt → Prop) : (h8 (w 41) (w 50) ∧ Q (.normal, frA c [(7, nI 58)], stA b s (upd w 57 (val b w 57)) 45)) = (tL 57 b s w c).allY (fun r => Q (canR kA kO r)) .nil := by kernel_rfl
theorem vcL58 (b : Nat → Int) (s : S8) (w : Nat → Int) (c : Cap) (Q : Exit × AFr × ASt → Prop) : (h8 (w 42) (w 51) ∧ Q (.normal, frA c [(7, nI 59)], stA b s (upd w 58 (val b w 58)) 45)) = (tL 58 b s w c).allY (fun r => Q (canR kA kO r)) .nil := by kernel_rfl
theorem vcL59 (b : Nat → Int) (s : S8) (w : Nat → Int) (c : Cap) (Q : Exit × AFr × ASt → Prop) : (h8 (w 43) (w 52) ∧ Q (.normal, frA c [(7, nI 60)], stA b s (upd w 59 (val b w 59)) 45)) = (tL 59 b s w c).allY (fun r => Q (canR kA kO r)) .nil := by kernel_rfl
theorem vcL60 (b : Nat → Int) (s : S8) (w : Nat → Int) (c : Cap) (Q : Exit × AFr × ASt → Prop) : (h8 (w 44) (w 53) ∧ Q (.normal, frA c [(7, nI 61)], stA b s (upd w 60 (val b w 60)) 45)) = (tL 60 b s w c).allY (fun r => Q (canR kA kO r)) .nil := by kernel_rfl
theorem vcL61 (b : Nat → Int) (s : S8) (w : Nat → Int) (c : Cap) (Q : Exit × AFr × ASt → Prop) : (h8 (w 45) (w 54) ∧ Q (.normal, frA c [(7, nI 62)], stA b s (upd w 61 (val b w 61)) 45)) = (tL 61 b s w c).allY (fun r => Q (canR kA kO r)) .nil := by kernel_rfl
theorem vcL62 (b : Nat → Int) (s : S8) (w : Nat → Int) (c : Cap) (Q : Exit × AFr × ASt → Prop) : (h8 (w 46) (w 55) ∧ Q (.normal, frA c [(7, nI 63)], stA b s (upd w 62 (val b w 62)) 45)) = (tL 62 b s w c).allY (fun r => Q (canR kA kO r)) .nil := by kernel_rfl
theorem vcL63 (b : Nat → Int) (s : S8) (w : Nat → Int) (c : Cap) (Q : Exit × AFr × ASt → Prop) : (h8 (w 47) (w 56) ∧ Q (.normal, frA c [(7, nI 64)], stA b s (upd w 63 (val b w 63)) 45)) = (tL 63 b s w c).allY (fun r => Q (canR kA kO r)) .nil := by kernel_rfl
theorem vcL64 (b : Nat → Int) (s : S8) (w : Nat → Int) (c : Cap) (Q : Exit × AFr × ASt → Prop) : Q (.exit 0, frA c [(7, nI 64)], stA b s w 5) = (tL 64 b s w c).allY (fun r => Q (canR kA kO r)) .nil := by kernel_rfl
end Go.Proofs.Ytlnohbilfogheaa.rsm
end
section
open Go Go.Ax Go.Proofs.Ytlnohbilfogheaa
namespace Go.Proofs.Ytlnohbilfogheaa.rsm
set_option linter.unusedVariables false
theorem vcA (b : Nat → Int) (s : S8) (c : Cap) (Q : Exit × AFr × ASt → Prop) :
  Q (.normal, xFr [(1, slB c), (2, .ptr (some (1, 0))), (4, .ptr (some (2, 0))), (5, .ptr (some (4, 0))), (6, .ptr (some (5, 0)))] 212, mkSt [(0, .cells (rowB b) false), (1, .cells (rowS s) true), (2, .cells zs8 true), (4, .cells ksL true), (5, .cells (rowW fun _ => .ofNat 0) true)] 6) =
  (tA b s c).allY (fun r => Q (canR [1, 2, 4, 5, 6] [0, 1, 2, 4, 5] r)) .nil := by kernel_rfl
theorem refs_mem {l : List AV} (h : l.all pureC = true) : ∀ c, c ∈ l → refsV 0 c := fun c hc => by
  have := List.all_eq_true.1 h c hc
  cases c <;> simp [pureC] at this <;> simp [refsV]
theorem rB (b : Nat → Int) : ∀ c, c ∈ rowB b → refsV 0 c := refs_mem (by simp [rowB, pureC])
theorem rW (w : Nat → Int) : ∀ c, c ∈ rowW w → refsV 0 c := refs_mem (by simp [rowW, pureC])
theorem rS (s : S8) : ∀ c, c ∈ rowS s → refsV 0 c := refs_mem (by simp [rowS, pureC])
theorem rZ : ∀ c, c ∈ zs8 → refsV 0 c := refs_mem (by simp [zs8, pureC])
theorem rK : ∀ c, c ∈ ksL → refsV 0 c := refs_mem (by simp [ksL, pureC])
section
variable {b : Nat → Int} {s : S8} {c : Cap} {w : Nat → Int}
theorem objA {n : Nat} : StP [0, 1, 2, 3, 4] (stA b s w n) [(0, .cells (rowB b) false), (1, .cells (rowS s) true), (2, .cells zs8 true), (3, .cells ksL true), (4, .cells (rowW w) true)] :=
  .cons 0 _ rfl (by kernel_rfl) (RenO.row (rB b)) <| .cons 1 _ rfl (by kernel_rfl) (RenO.row (rS s)) <| .cons 2 _ rfl (by kernel_rfl) (RenO.row rZ) <| .cons 3 _ rfl (by kernel_rfl) (RenO.row rK) <| .cons 4 _ rfl (by kernel_rfl) (RenO.row (rW w)) .nil
theorem toA0 : Wk 1 (xFr [(1, slB c), (2, .ptr (some (1, 0))), (4, .ptr (some (2, 0))), (5, .ptr (some (4, 0))), (6, .ptr (some (5, 0)))] 212) (mkSt [(0, .cells (rowB b) false), (1, .cells (rowS s) true), (2, .cells zs8 true), (4, .cells ksL true), (5, .cells (rowW w) true)] 6) (frA c []) (stA b s w 5) :=
  Wk.heldX [0, 1, 2, 4, 5] rfl rfl [1, 2, 4, 5, 6] (by kernel_rfl) (.cons 0 _ rfl (by kernel_rfl) (RenO.row (rB b)) <| .cons 1 _ rfl (by kernel_rfl) (RenO.row (rS s)) <| .cons 2 _ rfl (by kernel_rfl) (RenO.row rZ) <| .cons 4 _ rfl (by kernel_rfl) (RenO.row rK) <| .cons 5 _ rfl (by kernel_rfl) (RenO.row (rW w)) .nil)
theorem toA {n i : Nat} : Wk 1 (frA c [(7, nI i)]) (stA b s w n) (frA c [(7, nI i)]) (stA b s w 5) := Wk.heldX [0, 1, 2, 3, 4] rfl rfl kA (by kernel_rfl) objA
theorem toB0 {n : Nat} {s' : S8} : Wk 1 (frB c s' []) (stA b s w n) (frB c s' []) (stA b s w 5) := Wk.heldX [0, 1, 2, 3, 4] rfl rfl kB (by kernel_rfl) objA
theorem toB {n i : Nat} {s' : S8} : Wk 1 (frB c s' [(18, nI i)]) (stA b s w n) (frB c s' [(18, nI i)]) (stA b s w 5) := Wk.heldX [0, 1, 2, 3, 4] rfl rfl kB2 (by kernel_rfl) objA
theorem h8_ok (x y : Int) : h8 x y := by simp [h8, holdsO, avEq]
abbrev LQ (b : Nat → Int) (s : S8) (w : Nat → Int) (c : Cap) (i : Nat) : Exit × AFr × ASt → Prop := Stops 1 .normal (frA c [(7, nI (i + 1))]) (stA b s (upd w i (val b w i)) 5)
theorem goL {i : Nat} {y : An} (h : (tL i b s w c).allY (fun r => LQ b s w c i (canR kA kO r)) y) : Trip Try.prog 1 none LA (frA c [(7, nI i)]) (stA b s w 5) (LQ b s w c i) := (Trip.runY Eok noSum_ok h).mono fun r hr => hr.can
theorem roundA {i : Nat} (hi : i < 64) : Trip Try.prog 1 none LA (frA c [(7, nI i)]) (stA b s w 5) (LQ b s w c i) := by
  match i, hi with
  | 0, _ => exact goL (Eq.mp (vcL0 b s w c (LQ b s w c 0)) ⟨trivial, rfl, toA⟩)
  | 1, _ => exact goL (Eq.mp (vcL1 b s w c (LQ b s w c 1)) ⟨trivial, rfl, toA⟩)
  | 2, _ => exact goL (Eq.mp (vcL2 b s w c (LQ b s w c 2)) ⟨trivial, rfl, toA⟩)
  | 3, _ => exact goL (Eq.mp (vcL3 b s w c (LQ b s w c 3)) ⟨trivial, rfl, toA⟩)
  | 4, _ => exact goL (Eq.mp (vcL4 b s w c (LQ b s w c 4)) ⟨trivial, rfl, toA⟩)
  | 5, _ => exact goL (Eq.mp (vcL5 b s w c (LQ b s w c 5)) ⟨trivial, rfl, toA⟩)
  | 6, _ => exact goL (Eq.mp (vcL6 b s w c (LQ b s w c 6)) ⟨trivial, rfl, toA⟩)
  | 7, _ => exact goL (Eq.mp (vcL7 b s w c (LQ b s w c 7)) ⟨trivial, rfl, toA⟩)
  | 8, _ => exact goL (Eq.mp (vcL8 b s w c (LQ b s w c 8)) ⟨trivial, rfl, toA⟩)
  | 9, _ => exact goL (Eq.mp (vcL9 b s w c (LQ b s w c 9)) ⟨trivial, rfl, toA⟩)
  | 10, _ => exact goL (Eq.mp (vcL10 b s w c (LQ b s w c 10)) ⟨trivial, rfl, toA⟩)
  | 11, _ => exact goL (Eq.mp (vcL11 b s w c (LQ b s w c 11)) ⟨trivial, rfl, toA⟩)
  | 12, _ => exact goL (Eq.mp (vcL12 b s w c (LQ b s w c 12)) ⟨trivial, rfl, toA⟩)
  | 13, _ => exact goL (Eq.mp (vcL13 b s w c (LQ b s w c 13)) ⟨trivial, rfl, toA⟩)
  | 14, _ => exact goL (Eq.mp (vcL14 b s w c (LQ b s w c 14)) ⟨trivial, rfl, toA⟩)
  | 15, _ => exact goL (Eq.mp (vcL15 b s w c (LQ b s w c 15)) ⟨trivial, rfl, toA⟩)
  | 16, _ => exact goL (Eq.mp (vcL16 b s w c (LQ b s w c 16)) ⟨h8_ok _ _, rfl, toA⟩)
  | 17, _ => exact goL (Eq.mp (vcL17 b s w c (LQ b s w c 17)) ⟨h8_ok _ _, rfl, toA⟩)
  | 18, _ => exact goL (Eq.mp (vcL18 b s w c (LQ b s w c 18)) ⟨h8_ok _ _, rfl, toA⟩)
  | 19, _ => exact goL (Eq.mp (vcL19 b s w c (LQ b s w c 19)) ⟨h8_ok _ _, rfl, toA⟩)
  | 20, _ => exact goL (Eq.mp (vcL20 b s w c (LQ b s w c 20)) ⟨h8_ok _ _, rfl, toA⟩)
  | 21, _ => exact goL (Eq.mp (vcL21 b s w c (LQ b s w c 21)) ⟨h8_ok _ _, rfl, toA⟩)
  | 22, _ => exact goL (Eq.mp (vcL22 b s w c (LQ b s w c 22)) ⟨h8_ok _ _, rfl, toA⟩)
  | 23, _ => exact goL (Eq.mp (vcL23 b s w c (LQ b s w c 23)) ⟨h8_ok _ _, rfl, toA⟩)
  | 24, _ => exact goL (Eq.mp (vcL24 b s w c (LQ b s w c 24)) ⟨h8_ok _ _, rfl, toA⟩)
  | 25, _ => exact goL (Eq.mp (vcL25 b s w c (LQ b s w c 25)) ⟨h8_ok _ _, rfl, toA⟩)
  | 26, _ => exact goL (Eq.mp (vcL26 b s w c (LQ b s w c 26)) ⟨h8_ok _ _, rfl, toA⟩)
  | 27, _ => exact goL (Eq.mp (vcL27 b s w c (LQ b s w c 27)) ⟨h8_ok _ _, rfl, toA⟩)
  | 28, _ => exact goL (Eq.mp (vcL28 b s w c (LQ b s w c 28)) ⟨h8_ok _ _, rfl, toA⟩)
  | 29, _ => exact goL (Eq.mp (vcL29 b s w c (LQ b s w c 29)) ⟨h8_ok _ _, rfl, toA⟩)
  | 30, _ => exact goL (Eq.mp (vcL30 b s w c (LQ b s w c 30)) ⟨h8_ok _ _, rfl, toA⟩)
  | 31, _ => exact goL (Eq.mp (vcL31 b s w c (LQ b s w c 31)) ⟨h8_ok _ _, rfl, toA⟩)
  | 32, _ => exact goL (Eq.mp (vcL32 b s w c (LQ b s w c 32)) ⟨h8_ok _ _, rfl, toA⟩)
  | 33, _ => exact goL (Eq.mp (vcL33 b s w c (LQ b s w c 33)) ⟨h8_ok _ _, rfl, toA⟩)
  | 34, _ => exact goL (Eq.mp (vcL34 b s w c (LQ b s w c 34)) ⟨h8_ok _ _, rfl, toA⟩)
  | 35, _ => exact goL (Eq.mp (vcL35 b s w c (LQ b s w c 35)) ⟨h8_ok _ _, rfl, toA⟩)
  | 36, _ => exact goL (Eq.mp (vcL36 b s w c (LQ b s w c 36)) ⟨h8_ok _ _, rfl, toA⟩)
  | 37, _ => exact goL (Eq.mp (vcL37 b s w c (LQ b s w c 37)) ⟨h8_ok _ _, rfl, toA⟩)
  | 38, _ => exact goL (Eq.mp (vcL38 b s w c (LQ b s w c 38)) ⟨h8_ok _ _, rfl, toA⟩)
  | 39, _ => exact goL (Eq.mp (vcL39 b s w c (LQ b s w c 39)) ⟨h8_ok _ _, rfl, toA⟩)
  | 40, _ => exact goL (Eq.mp (vcL40 b s w c (LQ b s w c 40)) ⟨h8_ok _ _, rfl, toA⟩)
  | 41, _ => exact goL (Eq.mp (vcL41 b s w c (LQ b s w c 41)) ⟨h8_ok _ _, rfl, toA⟩)
  | 42, _ => exact goL (Eq.mp (vcL42 b s w c (LQ b s w c 42)) ⟨h8_ok _ _, rfl, toA⟩)
  | 43, _ => exact goL (Eq.mp (vcL43 b s w c (LQ b s w c 43)) ⟨h8_ok _ _, rfl, toA⟩)
  | 44, _ => exact goL (Eq.mp (vcL44 b s w c (LQ b s w c 44)) ⟨h8_ok _ _, rfl, toA⟩)
  | 45, _ => exact goL (Eq.mp (vcL45 b s w c (LQ b s w c 45)) ⟨h8_ok _ _, rfl, toA⟩)
  | 46, _ => exact goL (Eq.mp (vcL46 b s w c (LQ b s w c 46)) ⟨h8_ok _ _, rfl, toA⟩)
  | 47, _ => exact goL (Eq.mp (vcL47 b s w c (LQ b s w c 47)) ⟨h8_ok _ _, rfl, toA⟩)
  | 48, _ => exact goL (Eq.mp (vcL48 b s w c (LQ b s w c 48)) ⟨h8_ok _ _, rfl, toA⟩)
  | 49, _ => exact goL (Eq.mp (vcL49 b s w c (LQ b s w c 49)) ⟨h8_ok _ _, rfl, toA⟩)
  | 50, _ => exact goL (Eq.mp (vcL50 b s w c (LQ b s w c 50)) ⟨h8_ok _ _, rfl, toA⟩)
  | 51, _ => exact goL (Eq.mp (vcL51 b s w c (LQ b s w c 51)) ⟨h8_ok _ _, rfl, toA⟩)
  | 52, _ => exact goL (Eq.mp (vcL52 b s w c (LQ b s w c 52)) ⟨h8_ok _ _, rfl, toA⟩)
  | 53, _ => exact goL (Eq.mp (vcL53 b s w c (LQ b s w c 53)) ⟨h8_ok _ _, rfl, toA⟩)
  | 54, _ => exact goL (Eq.mp (vcL54 b s w c (LQ b s w c 54)) ⟨h8_ok _ _, rfl, toA⟩)
  | 55, _ => exact goL (Eq.mp (vcL55 b s w c (LQ b s w c 55)) ⟨h8_ok _ _, rfl, toA⟩)
  | 56, _ => exact goL (Eq.mp (vcL56 b s w c (LQ b s w c 56)) ⟨h8_ok _ _, rfl, toA⟩)
  | 57, _ => exact goL (Eq.mp (vcL57 b s w c (LQ b s w c 57)) ⟨h8_ok _ _, rfl, toA⟩)
  | 58, _ => exact goL (Eq.mp (vcL58 b s w c (LQ b s w c 58)) ⟨h8_ok _ _, rfl, toA⟩)
  | 59, _ => exact goL (Eq.mp (vcL59 b s w c (LQ b s w c 59)) ⟨h8_ok _ _, rfl, toA⟩)
  | 60, _ => exact goL (Eq.mp (vcL60 b s w c (LQ b s w c 60)) ⟨h8_ok _ _, rfl, toA⟩)
  | 61, _ => exact goL (Eq.mp (vcL61 b s w c (LQ b s w c 61)) ⟨h8_ok _ _, rfl, toA⟩)
  | 62, _ => exact goL (Eq.mp (vcL62 b s w c (LQ b s w c 62)) ⟨h8_ok _ _, rfl, toA⟩)
  | 63, _ => exact goL (Eq.mp (vcL63 b s w c (LQ b s w c 63)) ⟨h8_ok _ _, rfl, toA⟩)
  | i + 64, hi => omega
end
end Go.Proofs.Ytlnohbilfogheaa.rsm
end
section
open Go Go.Ax Go.Proofs.Ytlnohbilfogheaa
namespace Go.Proofs.Ytlnohbilfogheaa.rsm
set_option linter.unusedVariables false
def valL (b : Nat → Int) (l : List Int) (i : Nat) : Int := bif Nat.blt i 16 then wordR (b (4 * i)) (b (4 * i + 1)) (b (4 * i + 2)) (b (4 * i + 3)) else nextR (l.getD 15 0) (l.getD 14 0) (l.getD 6 0) (l.getD 1 0)
def Ls (b : Nat → Int) : Nat → List Int
  | 0 => []
  | i + 1 => valL b (Ls b i) i :: Ls b i
theorem Ls_len (b : Nat → Int) : ∀ i, (Ls b i).length = i
  | 0 => rfl
  | i + 1 => by simp [Ls, Ls_len b i]
theorem ext_Ls (b : Nat → Int) : ∀ n k, 16 ≤ k → extR n (Ls b k) = Ls b (k + n)
  | 0, k, _ => rfl
  | n + 1, k, hk => by
    have e : nextR ((Ls b k).getD 15 0) ((Ls b k).getD 14 0) ((Ls b k).getD 6 0) ((Ls b k).getD 1 0) :: Ls b k = Ls b (k + 1) := by
      show _ = valL b (Ls b k) k :: Ls b k
      unfold valL
      rw [blt_f (by omega)]; rfl
    show extR n (_ :: Ls b k) = _
    rw [e, ext_Ls b n (k + 1) (by omega)]
    congr 1; omega
theorem Ls_words (b : Nat → Int) : wordsR ((List.range 64).map b) [] = Ls b 16 := by kernel_rfl
def InvW (b w : Nat → Int) (i : Nat) : Prop := ∀ j, j < i → w j = (Ls b i).getD (i - 1 - j) 0
theorem inv_val {b w : Nat → Int} {i : Nat} (h : InvW b w i) : val b w i = valL b (Ls b i) i := by
  unfold val valL
  by_cases hi : i < 16
  · rw [blt_t hi]; rfl
  · rw [blt_f (by omega)]
    simp only [cond_false]
    rw [h (i - 16) (by omega), h (i - 15) (by omega), h (i - 7) (by omega), h (i - 2) (by omega)]
    rw [show i - 1 - (i - 16) = 15 by omega, show i - 1 - (i - 15) = 14 by omega, show i - 1 - (i - 7) = 6 by omega, show i - 1 - (i - 2) = 1 by omega]
theorem inv_step {b w : Nat → Int} {i : Nat} (h : InvW b w i) : InvW b (upd w i (val b w i)) (i + 1) := by
  intro j hj
  unfold upd
  show _ = (valL b (Ls b i) i :: Ls b i).getD (i + 1 - 1 - j) 0
  by_cases e : j = i
  · subst e
    rw [beq_t rfl, cond_true, inv_val h]
    simp
  · rw [beq_f e, cond_false, h j (by omega), show i + 1 - 1 - j = (i - 1 - j) + 1 by omega]
    simp [List.getD_eq_getElem?_getD]
theorem inv_all {b w : Nat → Int} (h : InvW b w 64) : (List.range 64).map w = (extR 48 (wordsR ((List.range 64).map b) [])).reverse := by
  rw [Ls_words, ext_Ls b 48 16 (by omega)]
  apply List.ext_getElem?
  intro j
  have hl := Ls_len b 64
  by_cases hj : j < 64
  · have hj2 : j < (Ls b (16 + 48)).length := by rw [Ls_len]; omega
    rw [List.getElem?_reverse hj2]
    simp only [List.getElem?_map, List.getElem?_range hj, Option.map_some]
    rw [h j hj, List.getD_eq_getElem?_getD]
    have e : (Ls b (16 + 48)).length - 1 - j = 64 - 1 - j := by rw [Ls_len]
    rw [e]
    have h3 : 64 - 1 - j < (Ls b 64).length := by rw [hl]; omega
    rw [List.getElem?_eq_getElem h3]; rfl
  · rw [List.getElem?_eq_none (by simp; omega), List.getElem?_eq_none (by simp [Ls_len]; omega)]
theorem rnds_snoc : ∀ (ks ws : List Int) (k x : Int) (s : S8), ks.length = ws.length → rndsR (ks ++ [k]) (ws ++ [x]) s = rndR k x (rndsR ks ws s)
  | [], [], k, x, s, _ => rfl
  | [], _ :: _, _, _, _, h => by simp at h
  | _ :: _, [], _, _, _, h => by simp at h
  | k' :: ks, w' :: ws, k, x, s, h => rnds_snoc ks ws k x (rndR k' w' s) (by simpa using h)
section
variable {b : Nat → Int} {s : S8} {c : Cap} {w : Nat → Int}
theorem ce26 : cellT E 134 = true := by kernel_rfl
theorem idx27 {k i : Nat} (h : i < 64) (st : ASt) : still st (aIndexAddr E 135 (.ptr (some (k, 0))) (nI i)) = some (.ptr (some (k, 0 + i * 1)), st) := by
  have e : aIndexAddr E 135 (.ptr (some (k, 0))) (nI i) = bif Nat.blt i 64 then some (.ptr (some (k, 0 + i * 1))) else none := by kernel_rfl
  rw [e, blt_t h]; rfl
theorem ldK {i n : Nat} (h : i < 64) : aLoad E 134 (.ptr (some (3, 0 + i * 1))) (stA b s w n) = some (.int .u32 (shaK.getD i 0), stA b s w n) := by
  refine load_at (rw := true) (cs := ksL) ce26 (by kernel_rfl) ?_
  have hl : shaK.length = 64 := rfl
  unfold ksL
  rw [Nat.zero_add, Nat.mul_one, List.getElem?_map, List.getElem?_eq_getElem (by omega), List.getD_eq_getElem?_getD, List.getElem?_eq_getElem (by omega)]; rfl
theorem ldW {i n : Nat} (h : i < 64) : aLoad E 134 (.ptr (some (4, 0 + i * 1))) (stA b s w n) = some (.int .u32 (w i), stA b s w n) := by
  refine load_at (rw := true) (cs := rowW w) ce26 (by kernel_rfl) ?_
  simp [rowW, h]
theorem h6_ok {i : Nat} (h : i < 64) : h6 b s w i (shaK.getD i 0) (w i) := by
  unfold h6
  rw [ldK h, ldW h]
  simp [holdsO, fstO, avEq]
def BQ (b : Nat → Int) (s : S8) (w : Nat → Int) (c : Cap) (s' : S8) (i : Nat) (r : Exit × AFr × ASt) : Prop :=
  (i < 64 ∧ Stops 1 .normal (frB c (rndR (shaK.getD i 0) (w i) s') [(18, nI (i + 1))]) (stA b s w 5) r) ∨ (i = 64 ∧ Stops 1 (.exit 2) (frB c s' [(18, nI i)]) (stA b s w 5) r)
theorem roundB {s' : S8} {i : Nat} (hi : i ≤ 64) : Trip Try.prog 1 none LB (frB c s' [(18, nI i)]) (stA b s w 5) (BQ b s w c s' i) := by
  have hw := wrap_succ (i := i) (by omega)
  refine (Trip.runY Eok noSum_ok (Eq.mp (vcB b s w c s' i (shaK.getD i 0) (w i) (BQ b s w c s' i)) ?_)).mono fun r hr => hr.imp (fun h => ⟨h.1, h.2.can⟩) (fun h => ⟨h.1, h.2.can⟩)
  rw [ltF_nn, hw, rndX_eq]
  refine ifB_mk (fun h => ?_) (fun h => .inr ⟨by simp at h; omega, rfl, Wk.refl _ _ _⟩)
  have hlt : i < 64 := by simpa using h
  exact ⟨idx27 hlt _, ldK hlt, idx27 hlt _, ldW hlt, h6_ok hlt, .inl ⟨hlt, rfl, toB⟩⟩
theorem c16a : dropC 2 c16 = .seq (.seq (seqL (seqL (dropC 2 c16))) (.block 0 (.loop LA))) (dropC 3 c16) := by kernel_rfl
theorem c16b : dropC 5 c16 = .seq (.seq (seqL (seqL (dropC 5 c16))) (.block 2 (.loop LB))) (dropC 6 c16) := by kernel_rfl
theorem c16c : dropC 1 (dropC 3 c16) = dropC 5 c16 := by kernel_rfl
theorem press_at : AtMem Try.prog 126 [.agg (rowS s), slB c] (st0 b) (pressR s ((List.range 64).map b)).av := by
  refine AtMem.of_trip Eok (fn := Try.f126) (by kernel_rfl) (c := c16) (by kernel_rfl) (by kernel_rfl) ?_
  have e : ({ m := putArgs [.agg (rowS s), slB c] 0 .e, n := Try.f126.ntmps, defs := [] } : AFr) = fr [.agg (rowS s), slB c] 212 := by kernel_rfl
  have e2 : (st0 b).next = 1 := rfl
  rw [e, e2]
  refine Trip.preY Eok noSum_ok (k := 2) (by kernel_rfl) (Q1 := Stops 1 .normal (frA c []) (stA b s (fun _ => .ofNat 0) 5)) (Eq.mp (vcA b s c (Stops 1 .normal (frA c []) (stA b s (fun _ => .ofNat 0) 5))) ⟨rfl, toA0⟩) (fun F S hq => Trip.less hq.2 ?_) (fun r hne hq => absurd hq.1 hne)
  rw [c16a]
  refine Trip.seq (R := fun r => ∃ w, InvW b w 64 ∧ Stops 1 .normal (frA c [(7, nI 64)]) (stA b s w 5) r) ?_ (fun fr' st' hq => ?_) (fun e fr' st' hne hq => ?_)
  · refine Trip.seq (R := Stops 1 .normal (frA c [(7, nI 0)]) (stA b s (fun _ => .ofNat 0) 5)) ((Trip.runY Eok noSum_ok (Eq.mp (vcA2 b s (fun _ => .ofNat 0) c (Stops 1 .normal (frA c [(7, nI 0)]) (stA b s (fun _ => .ofNat 0) 5))) ⟨rfl, Wk.refl _ _ _⟩)).mono fun r hr => hr.can) (fun fr' st' hq => Trip.less hq.2 ?_) (fun e fr' st' hne hq => absurd hq.1 hne)
    refine Trip.block (Trip.loop (fun m fr st => ∃ i w, i ≤ 64 ∧ m = 64 - i ∧ InvW b w i ∧ fr = frA c [(7, nI i)] ∧ st = stA b s w 5) ?_ 64 ⟨0, _, by omega, by omega, fun j hj => by omega, rfl, rfl⟩)
    rintro m fr st ⟨i, w, hi, rfl, hv, rfl, rfl⟩
    by_cases hlt : i < 64
    · refine (roundA hlt).mono ?_
      rintro ⟨e, fr', st'⟩ ⟨g3, g4⟩
      simp only at g3 g4
      subst g3
      exact ⟨64 - (i + 1), _, _, by omega, g4, i + 1, _, by omega, rfl, inv_step hv, rfl, rfl⟩
    · have : i = 64 := by omega
      subst this
      refine (Trip.runY Eok noSum_ok (Eq.mp (vcL64 b s w c (Stops 1 (.exit 0) (frA c [(7, nI 64)]) (stA b s w 5))) ⟨rfl, Wk.refl _ _ _⟩)).mono ?_
      rintro ⟨e, fr', st'⟩ hr
      obtain ⟨g3, g4⟩ := hr.can
      simp only at g3 g4
      subst g3
      exact ⟨fun _ => ⟨w, hv, rfl, g4⟩, fun h => absurd rfl h⟩
  · obtain ⟨w, hv, _, hw⟩ := hq
    refine Trip.less hw ?_
    refine Trip.preY Eok noSum_ok (k := 1) (by kernel_rfl) (Q1 := Stops 1 .normal (frB c s []) (stA b s w 5)) (Eq.mp (vcM b s w c (Stops 1 .normal (frB c s []) (stA b s w 5))) ⟨rfl, toB0⟩) (fun F S hq => Trip.less hq.2 ?_) (fun r hne hq => absurd hq.1 hne)
    rw [c16c, c16b]
    have hlen : shaK.length = 64 := rfl
    refine Trip.seq (R := fun r => Stops 1 .normal (frB c (rndsR shaK ((List.range 64).map w) s) [(18, nI 64)]) (stA b s w 5) r) ?_ (fun fr' st' hq => ?_) (fun e fr' st' hne hq => absurd hq.1 hne)
    · refine Trip.seq (R := Stops 1 .normal (frB c s [(18, nI 0)]) (stA b s w 5)) ((Trip.runY Eok noSum_ok (Eq.mp (vcM2 b s w c s (Stops 1 .normal (frB c s [(18, nI 0)]) (stA b s w 5))) ⟨rfl, Wk.refl _ _ _⟩)).mono fun r hr => hr.can) (fun fr' st' hq => Trip.less hq.2 ?_) (fun e fr' st' hne hq => absurd hq.1 hne)
      refine Trip.block (Trip.loop (fun m fr st => ∃ i, i ≤ 64 ∧ m = 64 - i ∧ fr = frB c (rndsR (shaK.take i) (((List.range 64).map w).take i) s) [(18, nI i)] ∧ st = stA b s w 5) ?_ 64 ⟨0, by omega, by omega, rfl, rfl⟩)
      rintro m fr st ⟨i, hi, rfl, rfl, rfl⟩
      refine (roundB hi).mono ?_
      rintro ⟨e, fr', st'⟩ (⟨q1, g3, g4⟩ | ⟨q1, g3, g4⟩)
      · simp only at g3 g4
        subst g3
        refine ⟨64 - (i + 1), _, _, by omega, g4, i + 1, by omega, rfl, ?_, rfl⟩
        have t1 : shaK.take (i + 1) = shaK.take i ++ [shaK.getD i 0] := by
          rw [List.take_add_one, List.getElem?_eq_getElem (by omega), List.getD_eq_getElem?_getD, List.getElem?_eq_getElem (by omega)]; rfl
        have t2 : ((List.range 64).map w).take (i + 1) = ((List.range 64).map w).take i ++ [w i] := by
          rw [List.take_add_one]
          simp [q1]
        rw [t1, t2, rnds_snoc _ _ _ _ _ (by simp [hlen])]
      · simp only at g3 g4
        subst g3
        subst q1
        refine ⟨fun _ => ⟨rfl, ?_⟩, fun h => absurd rfl h⟩
        have t1 : shaK.take 64 = shaK := rfl
        have t2 : ((List.range 64).map w).take 64 = (List.range 64).map w := List.take_of_length_le (by simp)
        rw [t1, t2] at g4
        exact g4
    · refine Trip.less hq.2 (Trip.runY Eok noSum_ok (Eq.mp (vcE b s w c (rndsR shaK ((List.range 64).map w) s) 64 fun q' => (q'.1 = .normal ∨ q'.1 = .ret) ∧ q'.2 = some (pressR s ((List.range 64).map b)).av) ⟨.inr rfl, ?_⟩))
      rw [inv_all hv]
      unfold pressR
      cases rndsR shaK (extR 48 (wordsR ((List.range 64).map b) [])).reverse s with
      | mk a b c d e f g h => rfl
  · obtain ⟨w, _, h1, _⟩ := hq
    exact absurd h1 hne
end
end Go.Proofs.Ytlnohbilfogheaa.rsm
end
section
open Go Go.Ax Go.Proofs.Ytlnohbilfogheaa
namespace Go.Proofs.Ytlnohbilfogheaa.rsm
set_option linter.unusedVariables false
def rY (l : List Int) : List AV := l.map fun z => .int .u8 z
open Classical in
noncomputable def sumRP : CallT := fun f args st => bif Nat.beq 126 f then (match args with
  | [.agg [.int .u32 a, .int .u32 b, .int .u32 c, .int .u32 d, .int .u32 e, .int .u32 f, .int .u32 g, .int .u32 h], .slice (some (i, o)) 64 _] =>
    (match st.h.get i with
    | some (.cells cs _) => if hx : ∃ bs : Nat → Int, takeL cs o 64 = some (rowB bs) then some ((pressR ⟨a, b, c, d, e, f, g, h⟩ ((List.range 64).map hx.choose)).av, st) else none
    | _ => none)
  | _ => none) else none
theorem sumRP_ok : CallsOK Try.prog sumRP := by
  intro Bp w0 f args st r h ι w args' hsr hv
  unfold sumRP at h
  cases hf : Nat.beq 126 f
  · simp [hf] at h
  simp only [hf, cond_true] at h
  have := nbeq hf
  subst this
  split at h
  rotate_left
  · cases h
  rename_i a b c d e f g hh i o cap
  split at h
  rotate_left
  · cases h
  rename_i cs rw hi
  split at h
  rotate_left
  · cases h
  rename_i hx
  simp only [Option.some.injEq] at h
  subst h
  have hb := hx.choose_spec
  generalize hx.choose = bb at hb ⊢
  have hl : ((List.range 64).map bb).length = 64 := by simp
  have hrow : AtRow Try.prog 126 [.agg (rowS ⟨a, b, c, d, e, f, g, hh⟩)] ((List.range 64).map bb) (pressR ⟨a, b, c, d, e, f, g, hh⟩ ((List.range 64).map bb)).av := by
    intro B w0 ι w args' hB hsr hv
    rw [hl] at hv
    refine press_at (b := bb) (s := ⟨a, b, c, d, e, f, g, hh⟩) (c := .atl 64) B w0 ι w args' hB ?_ hv
    have e : stZ ((List.range 64).map bb) = st0 bb := by kernel_rfl
    rw [← e]; exact hsr
  exact local_row (pre := [.agg (rowS ⟨a, b, c, d, e, f, g, hh⟩)]) (bs := (List.range 64).map bb) (f := 126) (by rw [hl]; omega) rfl (S8.pure _) hrow hsr hi (by rw [hl, hb]; simp [rowB]) (args' := args') (cap := cap) (by rw [hl]; exact hv)
theorem rowB_inj {b b' : Nat → Int} (h : rowB b = rowB b') : (List.range 64).map b = (List.range 64).map b' := by
  have : (rowB b).map (fun v => match v with | .int _ z => z | _ => 0) = (rowB b').map (fun v => match v with | .int _ z => z | _ => 0) := by rw [h]
  simpa [rowB, Function.comp_def] using this
theorem call_press {st : ASt} {i o m : Nat} {cs : List AV} {rw : Bool} {c : Cap} {s : S8} {b : Nat → Int} (hi : st.h.get i = some (.cells cs rw)) (hb : takeL cs o 64 = some (rowB b)) :
    (M E (drawA E) sumRP (m + 1)).call 126 [.agg (rowS s), .slice (some (i, o)) 64 c] st = some ((pressR s ((List.range 64).map b)).av, st) := by
  have hs : sumRP 126 [.agg (rowS s), .slice (some (i, o)) 64 c] st = some ((pressR s ((List.range 64).map b)).av, st) := by
    unfold sumRP rowS
    simp only [Nat.beq_refl, cond_true, hi]
    have hx : ∃ bs : Nat → Int, takeL cs o 64 = some (rowB bs) := ⟨b, hb⟩
    rw [dif_pos hx]
    have h2 := hx.choose_spec
    generalize hx.choose = b2 at h2 ⊢
    rw [hb] at h2
    rw [rowB_inj (Option.some.inj h2)]
  show (match sumRP 126 _ st with | some r => some r | none => callF E (M E (drawA E) sumRP m).ex 126 _ st) = _
  rw [hs]
noncomputable def c8 : Code := Option.getD Try.f95.body .skip
noncomputable def L1 : Code := lopB (blkB (seqL (dropC 1 c8)))
noncomputable def q4 : Code := seqL (dropC 2 c8)
noncomputable def q5 : Code := seqL (seqL (dropC 3 c8))
noncomputable def L2 : Code := lopB (blkB (seqR (seqL (dropC 3 c8))))
noncomputable def q9 : Code := seqL (dropC 4 c8)
noncomputable def q10 : Code := seqL (seqL (dropC 5 c8))
noncomputable def L3 : Code := lopB (blkB (seqR (seqL (dropC 5 c8))))
noncomputable def qE : Code := dropC 6 c8
theorem s1 : dropC 1 c8 = .seq (.block 0 (.loop L1)) (dropC 2 c8) := by kernel_rfl
theorem s2 : dropC 2 c8 = .seq q4 (dropC 3 c8) := by kernel_rfl
theorem s3 : dropC 3 c8 = .seq (.seq q5 (.block 2 (.loop L2))) (dropC 4 c8) := by kernel_rfl
theorem s4 : dropC 4 c8 = .seq q9 (dropC 5 c8) := by kernel_rfl
theorem s5 : dropC 5 c8 = .seq (.seq q10 (.block 4 (.loop L3))) qE := by kernel_rfl
def z32 : List AV := (List.range 32).map fun _ => .int .u8 (.ofNat 0)
def slM (n : Nat) : AV := .slice (some (0, 0)) n (.atl n)
def slR (k n : Nat) : AV := .slice (some (k, 0)) n (.rest 1)
noncomputable def fr8 (k n N : Nat) (x : List (Nat × AV)) : AFr := xFr ([(0, slM n), (2, .ptr (some (1, 0))), (3, slR k N)] ++ x) 70
noncomputable def stR (m R : List Int) (x : List (Nat × AO)) (n : Nat) : ASt := mkSt ([(0, .cells (rY m) false), (1, .cells z32 true), (2, .cells (rY R) true)] ++ x) n
noncomputable def f0 (n : Nat) : AFr := fr [slM n] 70
noncomputable def sA (m : List Int) : ASt := mkSt [(0, .cells (rY m) false)] 1
noncomputable def tS0 (m : List Int) : Tr (Exit × AFr × ASt) := (TM E sumRP [] fl0 80).ex ⟨[11, 13], [], [], []⟩ none (preC 1 c8) (f0 m.length) (sA m)
noncomputable def sB (m : List Int) : ASt := mkSt [(0, .cells (rY m) false), (1, .cells z32 true)] 2
noncomputable def sC (m : List Int) (x : List (Nat × AO)) (n : Nat) : ASt := mkSt ([(0, .cells (rY m) false), (1, .cells z32 true)] ++ x) n
theorem vcS0 (m : List Int) (Q : Exit × AFr × ASt → Prop) :
  (aBuiltinM E .append [25, 25] [.slice none 0 (.known 0), slM m.length] (sB m) = some (slR 2 m.length, sC m [(2, .cells (rY m) true)] 3) ∧
   aBuiltinM E .append [25, 25] [slR 2 m.length, .slice (some (3, 0)) 1 (.known 1)] (sC m [(2, .cells (rY m) true), (3, .cells [.int .u8 (.ofNat 128)] true)] 4) = some (slR 4 (m.length + 1), sC m [(2, .dead), (3, .cells [.int .u8 (.ofNat 128)] true), (4, .cells (rY m ++ [.int .u8 (.ofNat 128)]) true)] 5) ∧
   Q (.normal, fr8 4 m.length (m.length + 1) [], sC m [(4, .cells (rY m ++ [.int .u8 (.ofNat 128)]) true)] 5)) =
  (tS0 m).allY (fun r => Q (canR [0, 2, 3] [0, 1, 4] r)) (.v (slR 2 m.length, sC m [(2, .cells (rY m) true)] 3) (.v (slR 4 (m.length + 1), sC m [(2, .dead), (3, .cells [.int .u8 (.ofNat 128)] true), (4, .cells (rY m ++ [.int .u8 (.ofNat 128)]) true)] 5) .nil)) := by kernel_rfl
noncomputable def tS1 (m R : List Int) : Tr (Exit × AFr × ASt) := (TM E sumRP [] fl0 80).ex ⟨[16, 20], [], [17], []⟩ none L1 (fr8 2 m.length R.length []) (stR m R [] 3)
theorem vcS1 (m R : List Int) (Q : Exit × AFr × ASt → Prop) :
  (still (stR m R [] 3) (aBin E .rem 3 (.tmp 15) (.const (.int .i64 64)) (nI R.length) (nI 64)) = some (nI (R.length % 64), stR m R [] 3) ∧ ifB (!eqF (.ofNat (R.length % 64)) (.ofNat 56))
    (aBuiltinM E .append [25, 25] [slR 2 R.length, .slice (some (3, 0)) 1 (.known 1)] (stR m R [(3, .cells [.int .u8 (.ofNat 0)] true)] 4) = some (slR 4 (R.length + 1), sC m [(2, .dead), (3, .cells [.int .u8 (.ofNat 0)] true), (4, .cells (rY R ++ [.int .u8 (.ofNat 0)]) true)] 5) ∧
      Q (.normal, fr8 4 m.length (R.length + 1) [], sC m [(2, .dead), (4, .cells (rY R ++ [.int .u8 (.ofNat 0)]) true)] 5))
    (Q (.exit 0, fr8 2 m.length R.length [], stR m R [] 3))) =
  (tS1 m R).allY (fun r => Q (canR [0, 2, 3] [0, 1, 2, 4] r)) (.v (nI (R.length % 64), stR m R [] 3) (.b (.v (slR 4 (R.length + 1), sC m [(2, .dead), (3, .cells [.int .u8 (.ofNat 0)] true), (4, .cells (rY R ++ [.int .u8 (.ofNat 0)]) true)] 5) .nil) .nil)) := by kernel_rfl
end Go.Proofs.Ytlnohbilfogheaa.rsm
end
section
open Go Go.Ax Go.Proofs.Ytlnohbilfogheaa
namespace Go.Proofs.Ytlnohbilfogheaa.rsm
set_option linter.unusedVariables false
def nnI (n : Nat) : Int := wrapF .u64 (wrapF .u64 (.ofNat n) * .ofNat 8)
def vN (n : Nat) : AV := .int .u64 (nnI n)
def byI (n i : Nat) : Int := wrapF .u8 (shrF (nnI n) (8 * i))
def m1 : AV := .int .i64 (.negSucc 0)
noncomputable def tQ4 (m R : List Int) : Tr (Exit × AFr × ASt) := (TM E sumRP [] fl0 80).ex fl0 none q4 (fr8 2 m.length R.length []) (stR m R [] 3)
noncomputable def tQ5 (m R : List Int) : Tr (Exit × AFr × ASt) := (TM E sumRP [] fl0 80).ex fl0 none q5 (fr8 2 m.length R.length [(4, vN m.length)]) (stR m R [] 3)
noncomputable def tL2 (i : AV) (m R : List Int) : Tr (Exit × AFr × ASt) := (TM E sumRP [] fl0 80).ex ⟨[37], [], [], []⟩ none L2 (fr8 2 m.length R.length [(4, vN m.length), (5, i)]) (stR m R [] 3)
noncomputable def tQ9 (m R : List Int) (i : AV) : Tr (Exit × AFr × ASt) := (TM E sumRP [] fl0 80).ex fl0 none q9 (fr8 2 m.length R.length [(4, vN m.length), (5, i)]) (stR m R [] 3)
noncomputable def stS (m R : List Int) (s : S8) (n : Nat) : ASt := stR m R [(3, .cells (rowS s) true)] n
noncomputable def frQ (n N : Nat) (x : List (Nat × AV)) : AFr := fr8 2 n N ([(6, .ptr (some (3, 0)))] ++ x)
noncomputable def tQ10 (m R : List Int) (s : S8) : Tr (Exit × AFr × ASt) := (TM E sumRP [] fl0 80).ex fl0 none q10 (frQ m.length R.length []) (stS m R s 4)
noncomputable def tL3 (m R : List Int) (s s2 : S8) (i : Nat) : Tr (Exit × AFr × ASt) := (TM E sumRP [] fl0 80).ex ⟨[50, 51], [], [42], []⟩ none L3 (frQ m.length R.length [(7, nI i)]) (stS m R s 4)
noncomputable def tE8 (m R : List Int) (s : S8) (i : Nat) : Tr (Exit × AFr × ASt) := (TM E sumRP [] fl0 80).ex fl0 none qE (frQ m.length R.length [(7, nI i)]) (stS m R s 4)
theorem vcQ4 (m R : List Int) (Q : Exit × AFr × ASt → Prop) : Q (.normal, fr8 2 m.length R.length [(4, vN m.length)], stR m R [] 3) = (tQ4 m R).allY (fun r => Q (canR [0, 2, 3, 4] [0, 1, 2] r)) .nil := by kernel_rfl
theorem vcQ5 (m R : List Int) (Q : Exit × AFr × ASt → Prop) : Q (.normal, fr8 2 m.length R.length [(4, vN m.length), (5, nI 7)], stR m R [] 3) = (tQ5 m R).allY (fun r => Q (canR [0, 2, 3, 4, 5] [0, 1, 2] r)) .nil := by kernel_rfl
def L2Q (i : Nat) (j : AV) (m R : List Int) (Q : Exit × AFr × ASt → Prop) : Prop :=
  aBuiltinM E .append [25, 25] [slR 2 R.length, .slice (some (3, 0)) 1 (.known 1)] (stR m R [(3, .cells [.int .u8 (byI m.length i)] true)] 4) = some (slR 4 (R.length + 1), sC m [(2, .dead), (3, .cells [.int .u8 (byI m.length i)] true), (4, .cells (rY R ++ [.int .u8 (byI m.length i)]) true)] 5) ∧
      Q (.normal, fr8 4 m.length (R.length + 1) [(4, vN m.length), (5, j)], sC m [(2, .dead), (4, .cells (rY R ++ [.int .u8 (byI m.length i)]) true)] 5)
noncomputable def L2A (i : Nat) (m R : List Int) : An := .v (slR 4 (R.length + 1), sC m [(2, .dead), (3, .cells [.int .u8 (byI m.length i)] true), (4, .cells (rY R ++ [.int .u8 (byI m.length i)]) true)] 5) .nil
def k2 : List Nat := [0, 2, 3, 4, 5]
theorem vcL2_7 (m R : List Int) (Q : Exit × AFr × ASt → Prop) : L2Q 7 (nI 6) m R Q = (tL2 (nI 7) m R).allY (fun r => Q (canR k2 [0, 1, 2, 4] r)) (L2A 7 m R) := by kernel_rfl
theorem vcL2_6 (m R : List Int) (Q : Exit × AFr × ASt → Prop) : L2Q 6 (nI 5) m R Q = (tL2 (nI 6) m R).allY (fun r => Q (canR k2 [0, 1, 2, 4] r)) (L2A 6 m R) := by kernel_rfl
theorem vcL2_5 (m R : List Int) (Q : Exit × AFr × ASt → Prop) : L2Q 5 (nI 4) m R Q = (tL2 (nI 5) m R).allY (fun r => Q (canR k2 [0, 1, 2, 4] r)) (L2A 5 m R) := by kernel_rfl
theorem vcL2_4 (m R : List Int) (Q : Exit × AFr × ASt → Prop) : L2Q 4 (nI 3) m R Q = (tL2 (nI 4) m R).allY (fun r => Q (canR k2 [0, 1, 2, 4] r)) (L2A 4 m R) := by kernel_rfl
theorem vcL2_3 (m R : List Int) (Q : Exit × AFr × ASt → Prop) : L2Q 3 (nI 2) m R Q = (tL2 (nI 3) m R).allY (fun r => Q (canR k2 [0, 1, 2, 4] r)) (L2A 3 m R) := by kernel_rfl
theorem vcL2_2 (m R : List Int) (Q : Exit × AFr × ASt → Prop) : L2Q 2 (nI 1) m R Q = (tL2 (nI 2) m R).allY (fun r => Q (canR k2 [0, 1, 2, 4] r)) (L2A 2 m R) := by kernel_rfl
theorem vcL2_1 (m R : List Int) (Q : Exit × AFr × ASt → Prop) : L2Q 1 (nI 0) m R Q = (tL2 (nI 1) m R).allY (fun r => Q (canR k2 [0, 1, 2, 4] r)) (L2A 1 m R) := by kernel_rfl
theorem vcL2_0 (m R : List Int) (Q : Exit × AFr × ASt → Prop) : L2Q 0 m1 m R Q = (tL2 (nI 0) m R).allY (fun r => Q (canR k2 [0, 1, 2, 4] r)) (L2A 0 m R) := by kernel_rfl
theorem vcL2_e (m R : List Int) (Q : Exit × AFr × ASt → Prop) : Q (.exit 2, fr8 2 m.length R.length [(4, vN m.length), (5, m1)], stR m R [] 3) = (tL2 m1 m R).allY (fun r => Q (canR k2 [0, 1, 2, 4] r)) .nil := by kernel_rfl
theorem vcQ9 (m R : List Int) (i : AV) (Q : Exit × AFr × ASt → Prop) : Q (.normal, frQ m.length R.length [], stS m R shaS0 4) = (tQ9 m R i).allY (fun r => Q (canR [0, 2, 3, 6] [0, 1, 2, 3] r)) .nil := by kernel_rfl
theorem vcQ10 (m R : List Int) (s : S8) (Q : Exit × AFr × ASt → Prop) : Q (.normal, frQ m.length R.length [(7, nI 0)], stS m R s 4) = (tQ10 m R s).allY (fun r => Q (canR [0, 2, 3, 6, 7] [0, 1, 2, 3] r)) .nil := by kernel_rfl
theorem vcP3 (m R : List Int) (s s2 : S8) (i : Nat) (Q : Exit × AFr × ASt → Prop) :
  ifB (ltF (.ofNat i) (.ofNat R.length)) (still (stS m R s 12) (aSlice E 25 (slR 2 R.length) (some (nI i)) (some (.int .i64 (wrapF .i64 (.ofNat i + .ofNat 64)))) none (stS m R s 12)) = some (.slice (some (2, i)) 64 (.rest 1), stS m R s 12) ∧
    (M E (drawA E) sumRP 76).call 126 [.agg (rowS s), .slice (some (2, i)) 64 (.rest 1)] (stS m R s 12) = some (.agg (rowS s2), stS m R s 12) ∧ holdsO [] ∧ Q (.normal, frQ m.length R.length [(7, .int .i64 (wrapF .i64 (.ofNat i + .ofNat 64)))], stS m R s2 12))
    (Q (.exit 4, frQ m.length R.length [(7, nI i)], stS m R s 4)) =
  (tL3 m R s s2 i).allY (fun r => Q (canR [0, 2, 3, 6, 7] [0, 1, 2, 3] r)) (.b (.v (.slice (some (2, i)) 64 (.rest 1), stS m R s 12) (.v (.agg (rowS s2), stS m R s 12) .nil)) .nil) := by kernel_rfl
theorem vcE8 (m R : List Int) (s : S8) (i : Nat) (Q : Exit × Option AV → Prop) : Q (.ret, some (outI s)) = (tE8 m R s i).allY (fun r => Q (r.1, ans (leaveA E Try.f95 r.2.1 r.2.2))) .nil := by kernel_rfl
end Go.Proofs.Ytlnohbilfogheaa.rsm
end
section
open Go Go.Ax Go.Proofs.Ytlnohbilfogheaa
namespace Go.Proofs.Ytlnohbilfogheaa.rsm
set_option linter.unusedVariables false
theorem rY_len (R : List Int) : (rY R).length = R.length := by simp [rY]
theorem rY_app (R : List Int) (x : Int) : rY (R ++ [x]) = rY R ++ [.int .u8 x] := by simp [rY]
theorem rY_refs (R : List Int) : ∀ c, c ∈ rY R → refsV 0 c := by
  intro c hc
  obtain ⟨x, _, rfl⟩ := List.mem_map.1 hc
  simp [refsV]
theorem z32_refs : ∀ c, c ∈ z32 → refsV 0 c := refs_mem (by simp [z32, pureC])
theorem ap22 : appT E 25 25 = some (1, 1) := by kernel_rfl
theorem frE_cons {ids : List Nat} {fr : AFr} {k : Nat} {ks : List Nat} {v : AV} {l : List (Nat × AV)} (h0 : renV ids ((fr.m.get k).getD undefA) = some v) (h : frE ids fr ks = some l) : frE ids fr (k :: ks) = some ((k, v) :: l) := by
  simp only [frE, h0, h]
theorem appR {R : List Int} {x : Int} (S : ASt) (g2 : S.h.get 2 = some (.cells (rY R) true)) (g3 : S.h.get 3 = some (.cells [.int .u8 x] true)) (hl : R.length ≤ 100000) :
    aBuiltinM E .append [25, 25] [slR 2 R.length, .slice (some (3, 0)) 1 (.known 1)] S = some (.slice (some (S.next, 0)) (R.length + 1) (.rest 1), (S.put 2 .dead).add (.cells (rY R ++ [.int .u8 x]) true)) :=
  append_grow_at ap22 rfl (first_at g3 rfl) g2 (by rw [rY_len]; omega) (by omega) (by omega) (by omega) (by omega)
section
variable {m R : List Int}
theorem toR {n N : Nat} {S : ASt} {x : List (Nat × AV)} (hx : x = [] ∨ ∃ j, (∀ ids, renV ids j = some j) ∧ x = [(4, vN n), (5, j)]) (g0 : S.h.get 0 = some (.cells (rY m) false)) (g1 : S.h.get 1 = some (.cells z32 true)) (g4 : S.h.get 4 = some (.cells (rY R) true)) :
    Wk 1 (fr8 4 n N x) S (fr8 2 n N x) (stR m R [] 3) := by
  have ho : StP [0, 1, 4] S [(0, .cells (rY m) false), (1, .cells z32 true), (2, .cells (rY R) true)] := .cons 0 _ rfl g0 (RenO.row (rY_refs m)) <| .cons 1 _ rfl g1 (RenO.row z32_refs) <| .cons 4 _ rfl g4 (RenO.row (rY_refs R)) .nil
  rcases hx with rfl | ⟨j, hj, rfl⟩
  · exact Wk.heldX [0, 1, 4] rfl rfl [0, 2, 3] (by kernel_rfl) ho
  · exact Wk.heldX [0, 1, 4] rfl rfl [0, 2, 3, 4, 5] (frE_cons (by kernel_rfl) <| frE_cons (by kernel_rfl) <| frE_cons (by kernel_rfl) <| frE_cons (by kernel_rfl) <| frE_cons ((congrArg (renV [0, 1, 4]) (show ((fr8 4 n N [(4, vN n), (5, j)]).m.get 5).getD undefA = j by kernel_rfl)).trans (hj _)) rfl) ho
def pad (m : List Int) (k : Nat) : List Int := m ++ (128 :: List.replicate k 0)
theorem pad_len (m : List Int) (k : Nat) : (pad m k).length = m.length + 1 + k := by simp [pad]; omega
theorem pad_snoc (m : List Int) (k : Nat) : pad m k ++ [0] = pad m (k + 1) := by simp [pad, List.replicate_succ']
def zN (n : Nat) : Nat := (119 - n % 64) % 64
theorem loop1 (hm : m.length ≤ 90000) : Trip Try.prog 1 none (.block 0 (.loop L1)) (fr8 2 m.length (pad m 0).length []) (stR m (pad m 0) [] 3) (Stops 1 .normal (fr8 2 m.length (pad m (zN m.length)).length []) (stR m (pad m (zN m.length)) [] 3)) := by
  refine Trip.block (Trip.loop (fun μ fr st => ∃ k, k ≤ zN m.length ∧ μ = zN m.length - k ∧ fr = fr8 2 m.length (pad m k).length [] ∧ st = stR m (pad m k) [] 3) ?_ (zN m.length) ⟨0, by omega, by omega, rfl, rfl⟩)
  rintro μ fr st ⟨k, hk, rfl, rfl, rfl⟩
  have hl := pad_len m k
  have hz : zN m.length < 64 := Nat.mod_lt _ (by omega)
  have hzd : zN m.length = (119 - m.length % 64) % 64 := rfl
  have hrem : aBin E .rem 3 (.tmp 15) (.const (.int .i64 64)) (nI (pad m k).length) (nI 64) = some (nI ((pad m k).length % 64)) := by kernel_rfl
  refine (Trip.runY Eok sumRP_ok (Eq.mp (vcS1 m (pad m k) (fun r => (k < zN m.length ∧ Stops 1 .normal (fr8 2 m.length (pad m (k + 1)).length []) (stR m (pad m (k + 1)) [] 3) r) ∨ (k = zN m.length ∧ Stops 1 (.exit 0) (fr8 2 m.length (pad m k).length []) (stR m (pad m k) [] 3) r))) ⟨still_of hrem, ifB_mk (fun h => ?_) (fun h => ?_)⟩)).mono ?_
  · have h := neqF_t h
    have hne : ¬ (pad m k).length % 64 = 56 := fun e => h (by rw [e])
    have hlt : k < zN m.length := by omega
    refine ⟨(appR (x := .ofNat 0) _ (by kernel_rfl) (by kernel_rfl) (by omega)).trans (by kernel_rfl), .inl ⟨hlt, rfl, ?_⟩⟩
    have e1 : (pad m (k + 1)).length = (pad m k).length + 1 := by rw [pad_len, pad_len]; omega
    rw [e1]
    exact toR (.inl rfl) (by kernel_rfl) (by kernel_rfl) (by rw [← pad_snoc, rY_app]; kernel_rfl)
  · have h := Int.ofNat.inj (neqF_f h)
    exact .inr ⟨by omega, rfl, Wk.refl _ _ _⟩
  · rintro ⟨e, fr', st'⟩ (⟨q1, q2⟩ | ⟨q1, q2⟩)
    · obtain ⟨g3, g4⟩ := q2.can
      simp only at g3 g4
      subst g3
      exact ⟨zN m.length - (k + 1), _, _, by omega, g4, k + 1, by omega, rfl, rfl, rfl⟩
    · obtain ⟨g3, g4⟩ := q2.can
      simp only at g3 g4
      subst g3
      subst q1
      exact ⟨fun _ => ⟨rfl, g4⟩, fun h => absurd rfl h⟩
def lens (m : List Int) (j : Nat) : List Int := pad m (zN m.length) ++ (List.range j).map fun t => byI m.length (7 - t)
theorem lens_len (m : List Int) (j : Nat) : (lens m j).length = m.length + 1 + zN m.length + j := by simp [lens, pad_len]
theorem lens_snoc (m : List Int) (j : Nat) : lens m j ++ [byI m.length (7 - j)] = lens m (j + 1) := by simp [lens, List.range_succ]
def vI (j : Nat) : AV := if j = 8 then m1 else nI (7 - j)
theorem vI_ren (j : Nat) : ∀ ids, renV ids (vI j) = some (vI j) := fun ids => by unfold vI; split <;> rfl
theorem goL2 {j : Nat} (hm : m.length ≤ 90000) (hj : j < 8) {y : An} (h : ∀ Q : Exit × AFr × ASt → Prop, L2Q (7 - j) (vI (j + 1)) m (lens m j) Q = (tL2 (vI j) m (lens m j)).allY (fun r => Q (canR k2 [0, 1, 2, 4] r)) y) :
    Trip Try.prog 1 none L2 (fr8 2 m.length (lens m j).length [(4, vN m.length), (5, vI j)]) (stR m (lens m j) [] 3) (Stops 1 .normal (fr8 2 m.length (lens m (j + 1)).length [(4, vN m.length), (5, vI (j + 1))]) (stR m (lens m (j + 1)) [] 3)) := by
  have hl := lens_len m j
  have hz : zN m.length < 64 := Nat.mod_lt _ (by omega)
  refine (Trip.runY Eok sumRP_ok (Eq.mp (h (Stops 1 .normal (fr8 2 m.length (lens m (j + 1)).length [(4, vN m.length), (5, vI (j + 1))]) (stR m (lens m (j + 1)) [] 3))) ⟨(appR (x := byI m.length (7 - j)) _ (by kernel_rfl) (by kernel_rfl) (by omega)).trans (by kernel_rfl), rfl, ?_⟩)).mono fun r hr => hr.can
  have e1 : (lens m (j + 1)).length = (lens m j).length + 1 := by rw [lens_len, lens_len]; omega
  rw [e1]
  exact toR (.inr ⟨_, vI_ren _, rfl⟩) (by kernel_rfl) (by kernel_rfl) (by rw [← lens_snoc, rY_app]; kernel_rfl)
theorem round2 {j : Nat} (hm : m.length ≤ 90000) (hj : j < 8) :
    Trip Try.prog 1 none L2 (fr8 2 m.length (lens m j).length [(4, vN m.length), (5, vI j)]) (stR m (lens m j) [] 3) (Stops 1 .normal (fr8 2 m.length (lens m (j + 1)).length [(4, vN m.length), (5, vI (j + 1))]) (stR m (lens m (j + 1)) [] 3)) := by
  match j, hj with
  | 0, h => exact goL2 hm h fun Q => vcL2_7 m (lens m 0) Q
  | 1, h => exact goL2 hm h fun Q => vcL2_6 m (lens m 1) Q
  | 2, h => exact goL2 hm h fun Q => vcL2_5 m (lens m 2) Q
  | 3, h => exact goL2 hm h fun Q => vcL2_4 m (lens m 3) Q
  | 4, h => exact goL2 hm h fun Q => vcL2_3 m (lens m 4) Q
  | 5, h => exact goL2 hm h fun Q => vcL2_2 m (lens m 5) Q
  | 6, h => exact goL2 hm h fun Q => vcL2_1 m (lens m 6) Q
  | 7, h => exact goL2 hm h fun Q => vcL2_0 m (lens m 7) Q
  | j + 8, h => omega
theorem loop2 (hm : m.length ≤ 90000) : Trip Try.prog 1 none (.block 2 (.loop L2)) (fr8 2 m.length (lens m 0).length [(4, vN m.length), (5, nI 7)]) (stR m (lens m 0) [] 3) (Stops 1 .normal (fr8 2 m.length (lens m 8).length [(4, vN m.length), (5, m1)]) (stR m (lens m 8) [] 3)) := by
  refine Trip.block (Trip.loop (fun μ fr st => ∃ j, j ≤ 8 ∧ μ = 8 - j ∧ fr = fr8 2 m.length (lens m j).length [(4, vN m.length), (5, vI j)] ∧ st = stR m (lens m j) [] 3) ?_ 8 ⟨0, by omega, by omega, rfl, rfl⟩)
  rintro μ fr st ⟨j, hj, rfl, rfl, rfl⟩
  by_cases h : j < 8
  · refine (round2 hm h).mono ?_
    rintro ⟨e, fr', st'⟩ ⟨g3, g4⟩
    simp only at g3 g4
    subst g3
    exact ⟨8 - (j + 1), _, _, by omega, g4, j + 1, by omega, rfl, rfl, rfl⟩
  · have : j = 8 := by omega
    subst this
    refine (Trip.runY Eok sumRP_ok (Eq.mp (vcL2_e m (lens m 8) (Stops 1 (.exit 2) (fr8 2 m.length (lens m 8).length [(4, vN m.length), (5, m1)]) (stR m (lens m 8) [] 3))) ⟨rfl, Wk.refl _ _ _⟩)).mono ?_
    rintro ⟨e, fr', st'⟩ hr
    obtain ⟨g3, g4⟩ := hr.can
    simp only at g3 g4
    subst g3
    exact ⟨fun _ => ⟨rfl, g4⟩, fun h => absurd rfl h⟩
def chunkR (R : List Int) (q : Nat) : Nat → Int := fun j => R.getD (64 * q + j) 0
def foldP (R : List Int) : Nat → S8
  | 0 => shaS0
  | q + 1 => pressR (foldP R q) ((List.range 64).map (chunkR R q))
theorem take_chunk {R : List Int} {q : Nat} (h : 64 * q + 64 ≤ R.length) : takeL (rY R) (64 * q) 64 = some (rowB (chunkR R q)) := by
  have e : rY R = (List.range R.length).map fun i => AV.int .u8 (R.getD i 0) := by
    apply List.ext_getElem?
    intro i
    by_cases hi : i < R.length
    · simp [rY, hi]
    · simp [rY, hi]
  rw [e, takeL_range _ h]; rfl
theorem toS {n N q : Nat} {s : S8} {k : Nat} : Wk 1 (frQ n N [(7, nI q)]) (stS m R s k) (frQ n N [(7, nI q)]) (stS m R s 4) :=
  Wk.heldX [0, 1, 2, 3] rfl rfl [0, 2, 3, 6, 7] (by kernel_rfl) (.cons 0 _ rfl (by kernel_rfl) (RenO.row (rY_refs m)) <| .cons 1 _ rfl (by kernel_rfl) (RenO.row z32_refs) <| .cons 2 _ rfl (by kernel_rfl) (RenO.row (rY_refs R)) <| .cons 3 _ rfl (by kernel_rfl) (RenO.row (rS s)) .nil)
theorem sliceR {R : List Int} {m : List Int} {s : S8} {i : Nat} (h : i + 64 ≤ R.length) : aSlice E 25 (slR 2 R.length) (some (nI i)) (some (nI (i + 64))) none (stS m R s 12) = some (.slice (some (2, i)) 64 (.rest 1)) := by
  have e : aSlice E 25 (slR 2 R.length) (some (nI i)) (some (nI (i + 64))) none (stS m R s 12) = (match aBounds R.length (Nat.max R.length (Nat.div (Nat.sub (rY R).length 0) 1)) (some i) (some (i + 64)) none with
    | some (l, h, _) => bif Nat.blt l (Nat.max R.length (Nat.div (Nat.sub (rY R).length 0) 1)) then some (.slice (some (2, 0 + l * 1)) (h - l) (.rest 1)) else bif Nat.beq l 0 then some (.slice (some (2, 0)) 0 (.rest 1)) else some .slice0
    | none => none) := by kernel_rfl
  have e2 : Nat.max R.length (Nat.div (Nat.sub (rY R).length 0) 1) = R.length := by
    rw [rY_len]
    show max R.length ((R.length - 0) / 1) = R.length
    simp
  rw [e, e2, bounds_full (by omega) h]
  simp only [blt_t (show i < R.length by omega), cond_true, Nat.zero_add, Nat.mul_one, Nat.add_sub_cancel_left]
theorem loop3 {K : Nat} (hR : R.length = 64 * K) (hK : R.length ≤ 100000) : Trip Try.prog 1 none (.block 4 (.loop L3)) (frQ m.length R.length [(7, nI 0)]) (stS m R shaS0 4) (Stops 1 .normal (frQ m.length R.length [(7, nI (64 * K))]) (stS m R (foldP R K) 4)) := by
  refine Trip.block (Trip.loop (fun μ fr st => ∃ q, q ≤ K ∧ μ = K - q ∧ fr = frQ m.length R.length [(7, nI (64 * q))] ∧ st = stS m R (foldP R q) 4) ?_ K ⟨0, by omega, by omega, rfl, rfl⟩)
  rintro μ fr st ⟨q, hq, rfl, rfl, rfl⟩
  have hw : wrapF .i64 (.ofNat (64 * q) + .ofNat 64) = .ofNat (64 * q + 64) := by
    have : (Int.ofNat (64 * q) + Int.ofNat 64) = Int.ofNat (64 * q + 64) := rfl
    rw [this]; exact wrap_nat (by omega)
  refine (Trip.runY Eok sumRP_ok (Eq.mp (vcP3 m R (foldP R q) (foldP R (q + 1)) (64 * q) (fun r => (q < K ∧ Stops 1 .normal (frQ m.length R.length [(7, nI (64 * (q + 1)))]) (stS m R (foldP R (q + 1)) 4) r) ∨ (q = K ∧ Stops 1 (.exit 4) (frQ m.length R.length [(7, nI (64 * q))]) (stS m R (foldP R q) 4) r))) ?_)).mono ?_
  · rw [ltF_nn, hw]
    refine ifB_mk (fun h => ?_) (fun h => .inr ⟨by simp at h; omega, rfl, Wk.refl _ _ _⟩)
    have hlt : 64 * q < R.length := by simpa using h
    have hq2 : 64 * q + 64 ≤ R.length := by omega
    refine ⟨still_of (sliceR hq2), ?_, trivial, .inl ⟨by omega, rfl, ?_⟩⟩
    · exact call_press (m := 75) (rw := true) (cs := rY R) (b := chunkR R q) (by kernel_rfl) (take_chunk hq2)
    · rw [show 64 * (q + 1) = 64 * q + 64 by omega]; exact toS
  · rintro ⟨e, fr', st'⟩ (⟨q1, q2⟩ | ⟨q1, q2⟩)
    · obtain ⟨g3, g4⟩ := q2.can
      simp only at g3 g4
      subst g3
      exact ⟨K - (q + 1), _, _, by omega, g4, q + 1, by omega, rfl, rfl, rfl⟩
    · obtain ⟨g3, g4⟩ := q2.can
      simp only at g3 g4
      subst g3
      subst q1
      exact ⟨fun _ => ⟨rfl, g4⟩, fun h => absurd rfl h⟩
end
end Go.Proofs.Ytlnohbilfogheaa.rsm
end
section
open Go Go.Ax Go.Proofs.Ytlnohbilfogheaa
namespace Go.Proofs.Ytlnohbilfogheaa.rsm
set_option linter.unusedVariables false
section
variable {m R : List Int}
theorem lens0 (m : List Int) : lens m 0 = pad m (zN m.length) := by simp [lens]
theorem pad0 (m : List Int) : m ++ [128] = pad m 0 := by simp [pad]
theorem blocks (m : List Int) : (lens m 8).length = 64 * ((lens m 8).length / 64) := by
  rw [lens_len]; unfold zN; omega
theorem sum8_at (h0 : 0 < m.length) (hm : m.length ≤ 90000) : AtMem Try.prog 95 [slM m.length] (sA m) (outI (foldP (lens m 8) ((lens m 8).length / 64))) := by
  refine AtMem.of_trip Eok (fn := Try.f95) (by kernel_rfl) (c := c8) (by kernel_rfl) (by kernel_rfl) ?_
  have e : ({ m := putArgs [slM m.length] 0 .e, n := Try.f95.ntmps, defs := [] } : AFr) = f0 m.length := by kernel_rfl
  have e2 : (sA m).next = 1 := rfl
  rw [e, e2]
  have ha : aBuiltinM E .append [25, 25] [.slice none 0 (.known 0), slM m.length] (sB m) = some (slR 2 m.length, sC m [(2, .cells (rY m) true)] 3) :=
    (append_nil_at (new := rY m) ap22 rfl (first_at (cs := rY m) (rw := false) (by kernel_rfl) (by unfold takeL; simp only [List.drop_zero, Nat.mul_one, ← rY_len m, List.take_length, beq_t, cond_true])) h0 (by omega) (by omega)).trans (by kernel_rfl)
  have hl := lens_len m 8
  have hz : zN m.length < 64 := Nat.mod_lt _ (by omega)
  refine Trip.preY Eok sumRP_ok (k := 1) (by kernel_rfl) (Q1 := Stops 1 .normal (fr8 2 m.length (pad m 0).length []) (stR m (pad m 0) [] 3)) (Eq.mp (vcS0 m (Stops 1 .normal (fr8 2 m.length (pad m 0).length []) (stR m (pad m 0) [] 3))) ⟨ha, (appR (x := .ofNat 128) _ (by kernel_rfl) (by kernel_rfl) (by omega)).trans (by kernel_rfl), rfl, ?_⟩) (fun F S hq => Trip.less hq.2 ?_) (fun r hne hq => absurd hq.1 hne)
  · have e3 : (pad m 0).length = m.length + 1 := by rw [pad_len]
    rw [e3]
    exact toR (.inl rfl) (by kernel_rfl) (by kernel_rfl) (by rw [← pad0, rY_app]; kernel_rfl)
  rw [s1]
  refine Trip.seq (R := Stops 1 .normal (fr8 2 m.length (lens m 0).length []) (stR m (lens m 0) [] 3)) (by rw [lens0]; exact loop1 hm) (fun fr' st' hq => Trip.less hq.2 ?_) (fun e fr' st' hne hq => absurd hq.1 hne)
  rw [s2]
  refine Trip.seq (R := Stops 1 .normal (fr8 2 m.length (lens m 0).length [(4, vN m.length)]) (stR m (lens m 0) [] 3)) ((Trip.runY Eok sumRP_ok (Eq.mp (vcQ4 m (lens m 0) (Stops 1 .normal (fr8 2 m.length (lens m 0).length [(4, vN m.length)]) (stR m (lens m 0) [] 3))) ⟨rfl, Wk.refl _ _ _⟩)).mono fun r hr => hr.can) (fun fr' st' hq => Trip.less hq.2 ?_) (fun e fr' st' hne hq => absurd hq.1 hne)
  rw [s3]
  refine Trip.seq (R := Stops 1 .normal (fr8 2 m.length (lens m 8).length [(4, vN m.length), (5, m1)]) (stR m (lens m 8) [] 3)) (Trip.seq (R := Stops 1 .normal (fr8 2 m.length (lens m 0).length [(4, vN m.length), (5, nI 7)]) (stR m (lens m 0) [] 3)) ((Trip.runY Eok sumRP_ok (Eq.mp (vcQ5 m (lens m 0) (Stops 1 .normal (fr8 2 m.length (lens m 0).length [(4, vN m.length), (5, nI 7)]) (stR m (lens m 0) [] 3))) ⟨rfl, Wk.refl _ _ _⟩)).mono fun r hr => hr.can) (fun fr' st' hq => Trip.less hq.2 (loop2 hm)) (fun e fr' st' hne hq => absurd hq.1 hne)) (fun fr' st' hq => Trip.less hq.2 ?_) (fun e fr' st' hne hq => absurd hq.1 hne)
  rw [s4]
  refine Trip.seq (R := Stops 1 .normal (frQ m.length (lens m 8).length []) (stS m (lens m 8) shaS0 4)) ((Trip.runY Eok sumRP_ok (Eq.mp (vcQ9 m (lens m 8) m1 (Stops 1 .normal (frQ m.length (lens m 8).length []) (stS m (lens m 8) shaS0 4))) ⟨rfl, Wk.refl _ _ _⟩)).mono fun r hr => hr.can) (fun fr' st' hq => Trip.less hq.2 ?_) (fun e fr' st' hne hq => absurd hq.1 hne)
  rw [s5]
  refine Trip.seq (R := Stops 1 .normal (frQ m.length (lens m 8).length [(7, nI (64 * ((lens m 8).length / 64)))]) (stS m (lens m 8) (foldP (lens m 8) ((lens m 8).length / 64)) 4)) (Trip.seq (R := Stops 1 .normal (frQ m.length (lens m 8).length [(7, nI 0)]) (stS m (lens m 8) shaS0 4)) ((Trip.runY Eok sumRP_ok (Eq.mp (vcQ10 m (lens m 8) shaS0 (Stops 1 .normal (frQ m.length (lens m 8).length [(7, nI 0)]) (stS m (lens m 8) shaS0 4))) ⟨rfl, Wk.refl _ _ _⟩)).mono fun r hr => hr.can) (fun fr' st' hq => Trip.less hq.2 (loop3 (blocks m) (by omega))) (fun e fr' st' hne hq => absurd hq.1 hne)) (fun fr' st' hq => Trip.less hq.2 ?_) (fun e fr' st' hne hq => absurd hq.1 hne)
  exact Trip.runY Eok sumRP_ok (Eq.mp (vcE8 m (lens m 8) (foldP (lens m 8) ((lens m 8).length / 64)) (64 * ((lens m 8).length / 64)) fun q => (q.1 = .normal ∨ q.1 = .ret) ∧ q.2 = some (outI (foldP (lens m 8) ((lens m 8).length / 64)))) ⟨.inr rfl, rfl⟩)
end
theorem chunk_list {R : List Int} {q : Nat} (h : 64 * q + 64 ≤ R.length) : (List.range 64).map (chunkR R q) = (R.drop (64 * q)).take 64 := by
  apply List.ext_getElem?
  intro i
  by_cases hi : i < 64
  · rw [List.getElem?_take, if_pos hi, List.getElem?_drop]
    simp only [List.getElem?_map, List.getElem?_range hi, Option.map_some, chunkR]
    rw [List.getD_eq_getElem?_getD, List.getElem?_eq_getElem (by omega)]; rfl
  · rw [List.getElem?_eq_none (by simp; omega), List.getElem?_eq_none (by simp; omega)]
def foldZ (R : List Int) : Nat → S8
  | 0 => shaS0
  | q + 1 => pressZ (foldZ R q) ((List.range 64).map (chunkR R q))
theorem W0 : WS shaS0 := by
  refine ⟨W_nat (m := 0x6a09e667) (by omega), W_nat (m := 0xbb67ae85) (by omega), W_nat (m := 0x3c6ef372) (by omega), W_nat (m := 0xa54ff53a) (by omega), W_nat (m := 0x510e527f) (by omega), W_nat (m := 0x9b05688c) (by omega), W_nat (m := 0x1f83d9ab) (by omega), W_nat (m := 0x5be0cd19) (by omega)⟩
theorem fold_eq {R : List Int} (hb : ∀ x, x ∈ R → By x) : ∀ q, 64 * q ≤ R.length → foldP R q = foldZ R q ∧ WS (foldZ R q)
  | 0, _ => ⟨rfl, W0⟩
  | q + 1, h => by
    obtain ⟨e, w⟩ := fold_eq hb q (by omega)
    have hc : ∀ x, x ∈ (List.range 64).map (chunkR R q) → By x := fun x hx => by
      rw [chunk_list (by omega)] at hx
      exact hb x (List.mem_of_mem_drop (List.mem_of_mem_take hx))
    obtain ⟨e2, w2⟩ := press_eq w hc
    exact ⟨by show pressR (foldP R q) _ = pressZ (foldZ R q) _; rw [e]; exact e2, w2⟩
theorem wrap8 (z : Int) : By (wrapF .u8 z) := by
  have h : modN z 256 < 256 := by
    cases z with
    | ofNat m => exact Nat.mod_lt _ (by omega)
    | negSucc m => show 256 - 1 - m % 256 < 256; omega
  refine ⟨modN z 256, h, ?_⟩
  unfold wrapF
  have hb : Nat.blt (modN z (big .u8)) (half .u8) = true := by rw [Nat.blt_eq]; exact h
  show (bif Nat.blt (modN z (big .u8)) (half .u8) then Int.ofNat (modN z (big .u8)) else _) = _
  rw [hb]; rfl
theorem lens_by {m : List Int} (hb : ∀ x, x ∈ m → By x) : ∀ x, x ∈ lens m 8 → By x := by
  intro x hx
  unfold lens pad at hx
  rcases List.mem_append.1 hx with hx | hx
  · rcases List.mem_append.1 hx with hx | hx
    · exact hb x hx
    · rcases List.mem_cons.1 hx with rfl | hx
      · exact ⟨128, by omega, rfl⟩
      · rw [List.mem_replicate] at hx
        rw [hx.2]; exact ⟨0, by omega, rfl⟩
  · obtain ⟨t, _, rfl⟩ := List.mem_map.1 hx
    exact wrap8 _
theorem lens_tail (n : Nat) (b : Nat → Int) : (lens ((List.range n).map b) 8).drop (64 * (n / 64)) = tailL (n % 64) (fun i => b (64 * (n / 64) + i)) (.ofNat n) := by
  have hn : n = 64 * (n / 64) + n % 64 := by omega
  have hm : ((List.range n).map b).length = n := by simp
  unfold lens pad tailL
  rw [hm, List.append_assoc, List.drop_append_of_le_length (by simp; omega)]
  have e1 : ((List.range n).map b).drop (64 * (n / 64)) = (List.range (n % 64)).map fun i => b (64 * (n / 64) + i) := by
    apply List.ext_getElem?
    intro i
    rw [List.getElem?_drop]
    by_cases hi : i < n % 64
    · rw [List.getElem?_map, List.getElem?_range (by omega), List.getElem?_map, List.getElem?_range hi]; rfl
    · rw [List.getElem?_eq_none (by simp; omega), List.getElem?_eq_none (by simp; omega)]
  have e2 : ((List.range 8).map fun t => byI n (7 - t)) = (List.range 8).map (lenZ (.ofNat n)) := by
    apply List.map_congr_left
    intro t ht
    have ht := List.mem_range.1 ht
    unfold byI lenZ nnI
    rw [show 8 * (7 - t) = 56 - 8 * t by omega]; rfl
  rw [e1, e2]
  rfl
theorem head_eq (n : Nat) (b : Nat → Int) : ∀ q, q ≤ n / 64 → foldZ (lens ((List.range n).map b) 8) q = headZ b q
  | 0, _ => rfl
  | q + 1, h => by
    have hm : ((List.range n).map b).length = n := by simp
    show pressZ (foldZ _ q) _ = pressZ (headZ b q) _
    rw [head_eq n b q (by omega)]
    congr 1
    apply List.map_congr_left
    intro j hj
    have hj := List.mem_range.1 hj
    unfold chunkR lens pad
    rw [List.append_assoc, List.getD_eq_getElem?_getD, List.getElem?_append_left (by simp; omega)]
    simp [show 64 * q + j < n by omega]
theorem sum_eq {n : Nat} {b : Nat → Int} (hb : ∀ x, x ∈ (List.range n).map b → By x) : foldP (lens ((List.range n).map b) 8) ((lens ((List.range n).map b) 8).length / 64) = sumZ n b := by
  have hm : ((List.range n).map b).length = n := by simp
  have hl := lens_len ((List.range n).map b) 8
  rw [hm] at hl
  have hz : zN n = (119 - n % 64) % 64 := rfl
  have ht := lens_tail n b
  rw [(fold_eq (lens_by hb) _ (by omega)).1]
  unfold sumZ tailZ
  by_cases hr : n % 64 < 56
  · rw [blt_t hr]
    simp only [cond_true]
    have hK : (lens ((List.range n).map b) 8).length / 64 = n / 64 + 1 := by omega
    rw [hK]
    show pressZ (foldZ _ (n / 64)) _ = _
    rw [head_eq n b _ (by omega), chunk_list (by omega), ht]
    congr 1
    apply List.take_of_length_le
    simp [tailL]; omega
  · rw [blt_f (by omega)]
    simp only [cond_false]
    have hK : (lens ((List.range n).map b) 8).length / 64 = n / 64 + 2 := by omega
    rw [hK]
    show pressZ (pressZ (foldZ _ (n / 64)) _) _ = _
    rw [head_eq n b _ (by omega), chunk_list (by omega), chunk_list (by omega), ht, show 64 * (n / 64 + 1) = 64 * (n / 64) + 64 by omega, ← List.drop_drop, ht]
    congr 1
    apply List.take_of_length_le
    simp [tailL]; omega
end Go.Proofs.Ytlnohbilfogheaa.rsm
end
section
open Go Go.Ax Go.Proofs.Ytlnohbilfogheaa
namespace Go.Proofs.Ytlnohbilfogheaa.rsm
set_option linter.unusedVariables false
def RefOk (st : ASt) (i o n : Nat) (bs : List Int) : Prop := bs.length = n ∧ 0 < n ∧ n ≤ 90000 ∧ (∀ x, x ∈ bs → By x) ∧ ∃ cs rw, st.h.get i = some (.cells cs rw) ∧ takeL cs o n = some (rY bs)
open Classical in
noncomputable def sumRS : CallT := fun f args st => bif Nat.beq 95 f then (match args with
  | [.slice (some (i, o)) n _] => if h : ∃ v, ∃ bs, RefOk st i o n bs ∧ v = outI (sumZ n fun j => bs.getD j 0) then some (h.choose, st) else none
  | _ => none) else none
theorem row_fn (bs : List Int) : (List.range bs.length).map (fun j => bs.getD j 0) = bs := (list_of_range bs).symm
theorem sumRS_ok : CallsOK Try.prog sumRS := by
  intro Bp w0 f args st r h ι w args' hsr hv
  unfold sumRS at h
  cases hf : Nat.beq 95 f
  · simp [hf] at h
  simp only [hf, cond_true] at h
  have := nbeq hf
  subst this
  split at h
  rotate_left
  · cases h
  rename_i i o n cap
  split at h
  rotate_left
  · cases h
  rename_i hx
  simp only [Option.some.injEq] at h
  subst h
  obtain ⟨bs, ⟨h1, h2, h3, h4, cs, rw, h5, h6⟩, h7⟩ := hx.choose_spec
  rw [h7]
  subst h1
  have hrow : AtRow Try.prog 95 [] bs (outI (sumZ bs.length fun j => bs.getD j 0)) := by
    intro B w0 ι w args' hB hsr hv
    have hb : ∀ x, x ∈ (List.range bs.length).map (fun j => bs.getD j 0) → By x := by rw [row_fn]; exact h4
    have he := sum_eq (n := bs.length) (b := fun j => bs.getD j 0) hb
    rw [row_fn] at he
    have := sum8_at (m := bs) h2 h3 B w0 ι w args' hB hsr hv
    rw [he] at this
    exact this
  exact local_row (pre := []) (bs := bs) (f := 95) (by omega) rfl (outI_pure _) hrow hsr h5 h6 (args' := args') (cap := cap) hv
end Go.Proofs.Ytlnohbilfogheaa.rsm
end
end
