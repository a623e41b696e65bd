/-
  OWN WORK, TOLD ONCE FOR ALL TEXTS YtmjmpmmonelmmaaAxA TO YtmjmpmmonelmmaaAxU: an abstract machine for the program's text that the kernel can run, and the proof that it is sound: what it answers is what the program answers. No condition.
-/
import Derived.Test.YtmjmpmmonelmmaaAxSg
import Derived.Test.YtmjmpmmonelmmaaAxIt
namespace Go.Ax
noncomputable section
open Go.RowKit

/-! ### Frames and memories by their places -/
theorem foldl_get {α : Type} (d : Nat) : ∀ (l : List (Nat × α)) (t : T α) (k : Nat) (v : α), (l.foldl (fun t p => t.set d p.1 p.2) t).get k = some v → (∃ p, p ∈ l ∧ p.1 = k ∧ p.2 = v) ∨ t.get k = some v
  | [], t, k, v, h => .inr h
  | p :: l, t, k, v, h => by
    rcases foldl_get d l _ k v h with ⟨q, h1, h2⟩ | h
    · exact .inl ⟨q, List.mem_cons_of_mem _ h1, h2⟩
    · rw [T.get_set] at h
      by_cases e : k = p.1
      · simp only [e, if_true, Option.some.injEq] at h
        exact .inl ⟨p, List.mem_cons_self, e.symm, h⟩
      · simp only [e, if_false] at h; exact .inr h

/-- a frame whose listed temporaries are told -/
def zFr (n : Nat) (l : List (Nat × AV)) : AFr := canF (l.map (·.1)) (mkFr l n [])

theorem zFr_refs {k n : Nat} {l : List (Nat × AV)} (h : ∀ p, p ∈ l → refsV k p.2) (t : Nat) : refsV k (((zFr n l).m.get t).getD undefA) := by
  unfold zFr
  rw [canF_get]
  by_cases ht : t < n
  · have : t < (mkFr l n []).n := ht
    simp only [this, if_true]
    cases memN t (l.map (·.1))
    · simp only [cond_false, refsV]
    · simp only [cond_true]
      cases hg : (mkFr l n []).m.get t with
      | none => simp [undefA, refsV]
      | some v =>
        rcases foldl_get 11 l .e t v hg with ⟨p, h1, h2, h3⟩ | h1
        · subst h3; exact h p h1
        · rw [T.get_e] at h1; cases h1
  · have : ¬ t < (mkFr l n []).n := ht
    simp only [this, if_false, undefA, refsV]
    simp

theorem shrinks_of {kb k n nx : Nat} {l : List (Nat × AV)} {s : List (Nat × AO)} (hk : kb ≤ k) (hl : ∀ p, p ∈ l → refsV k p.2) (hs : ∀ p, p ∈ s → p.1 < k ∧ refsO k p.2) : Shrinks kb k (zFr n l) (mkSt s nx) :=
  ⟨hk, rfl, zFr_refs hl, fun i a hi => by
    rcases foldl_get D s .e i a hi with ⟨p, h1, h2, h3⟩ | h1
    · subst h3; subst h2; exact hs p h1
    · rw [T.get_e] at h1; cases h1⟩

theorem refs_map {α : Type} {k : Nat} {f : α → AV} {l : List α} (h : ∀ x, refsV k (f x)) : ∀ c, c ∈ l.map f → refsV k c := fun c hc => by
  obtain ⟨x, _, rfl⟩ := List.mem_map.1 hc; exact h x

theorem wrap_nat {n : Nat} (h : n < 9223372036854775808) : wrapF .i64 (.ofNat n) = .ofNat n := by
  rw [wrapF_eq]; exact wrap64_small h
theorem ltF_nat (a b : Nat) : ltF (.ofNat a) (.ofNat b) = decide (a < b) := by rw [ltF_eq]; congr 1; apply propext; exact Int.ofNat_lt

theorem bounds_full {n a b : Nat} (hab : a ≤ b) (hb : b ≤ n) : aBounds n n (some a) (some b) none = some (a, b, n) := by
  have h1 : Nat.ble b n = true := by rw [Nat.ble_eq]; exact hb
  have h2 : Nat.ble a b = true := by rw [Nat.ble_eq]; exact hab
  simp only [aBounds, h1, h2, cond_true]
theorem bounds_from {n a : Nat} (h : a ≤ n) : aBounds n n (some a) none none = some (a, n, n) := by
  have h2 : Nat.ble a n = true := by rw [Nat.ble_eq]; exact h
  simp only [aBounds, h2, cond_true]
theorem takeL_range {n a k : Nat} (f : Nat → AV) (h : a + k ≤ n) : takeL ((List.range n).map f) a k = some ((List.range k).map fun i => f (a + i)) := by
  have e : (((List.range n).map f).drop a).take k = (List.range k).map fun i => f (a + i) := by
    apply List.ext_getElem?
    intro j
    by_cases hj : j < k
    · simp [hj, show a + j < n by omega]
    · simp [hj]; omega
  unfold takeL
  simp only [e]
  have : Nat.beq ((List.range k).map fun i => f (a + i)).length k = true := by simp
  simp only [this, cond_true]
end
end Go.Ax
