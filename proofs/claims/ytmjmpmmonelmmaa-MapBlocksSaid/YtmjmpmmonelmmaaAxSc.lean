/-
  OWN WORK, TOLD ONCE FOR ALL TEXTS YtmjmpmmonelmmaaAxA TO YtmjmpmmonelmmaaAxU: an abstract machine for the program's text that the kernel can run, and the proof that it is sound: what it answers is what the program answers. No condition.
-/
import Derived.Test.YtmjmpmmonelmmaaAxN
import Derived.ScopeJumps
namespace Go.Ax
noncomputable section
open Go.RowKit

/-! ### A scope, and jumps to its labels -/
section
variable {F : Fence} {n : Nat} {P : Program} {a : Act} {w : World} {b : Frame} {k : List Item} {cs : List Frame}

theorem stepR_scope {c : Code} : Go.step P (lone (b.atR a (.code (.scope c) :: k)) cs w) = .next (lone (b.atR a (.code c :: .inScope c :: k)) cs w) :=
  step_lone_go (by simp [stepG, stepG.exec, Frame.atR])
theorem stepR_inScope {c : Code} : Go.step P (lone (b.atR a (.inScope c :: k)) cs w) = .next (lone (b.atR a k) cs w) :=
  step_lone_go (by simp [stepG, stepG.exec, Frame.atR])

/-- what a way out of a scope's body comes to, with so many jumps -/
def JumpsIn (F : Fence) (n : Nat) (P : Program) (c : Code) (Q : Exit → Act → World → Prop) : Nat → Exit → Act → World → Prop
  | 0, e, a, w => (∀ l, e = .goto l → findLabel c l = none) ∧ Q e a w
  | d + 1, e, a, w => (∃ l rest, e = .goto l ∧ findLabel c l = some rest ∧ rest.wpIn F n P (JumpsIn F n P c Q d) a w) ∨ ((∀ l, e = .goto l → findLabel c l = none) ∧ Q e a w)

theorem wpIn_scope {c : Code} {Q : Exit → Act → World → Prop} (d : Nat) (h : c.wpIn F n P (JumpsIn F n P c Q d) a w) : (Code.scope c).wpIn F n P Q a w := by
  intro b k cs hro hb hr
  have h0 : (lone (b.atR a (.code (.scope c) :: k)) cs w).fenced P F := fenced_calm hb hr rfl
  -- out of the scope
  have out : ∀ (m : Machine) (e : Exit) (a₁ : Act) (w₁ : World), (∀ l, e = .goto l → findLabel c l = none) → ArrivesIn (Machine.fenced P F) P m b (.inScope c :: k) cs e a₁ w₁ → ArrivesIn (Machine.fenced P F) P m b k cs e a₁ w₁ := by
    intro m e a₁ w₁ hn harr
    cases e with
    | normal => exact StepsIn.trans harr (.one (fenced_calm hb hr rfl) stepR_inScope)
    | exit id =>
      have hx : exitTo id (.inScope c :: k) = exitTo id k := by simp [exitTo]
      exact ⟨fun k' hk => harr.1 k' (by rw [hx]; exact hk), fun hr' hk => harr.2 hr' (by rw [hx]; exact hk)⟩
    | goto l =>
      have hx : gotoIn l (.inScope c :: k) = gotoIn l k := by simp [gotoIn, hn l rfl]
      exact ⟨fun k' hk => harr.1 k' (by rw [hx]; exact hk), fun hr' hk => harr.2 hr' (by rw [hx]; exact hk)⟩
    | ret => exact harr
    | panic ch => exact harr
    | outgrown => exact harr
  have key : ∀ (d : Nat) (m : Machine) (e : Exit) (a₁ : Act) (w₁ : World), JumpsIn F n P c Q d e a₁ w₁ → ArrivesIn (Machine.fenced P F) P m b (.inScope c :: k) cs e a₁ w₁ →
      ∃ e' a' w', Q e' a' w' ∧ ArrivesIn (Machine.fenced P F) P m b k cs e' a' w' := by
    intro d
    induction d with
    | zero => intro m e a₁ w₁ hj harr; exact ⟨e, a₁, w₁, hj.2, out m e a₁ w₁ hj.1 harr⟩
    | succ d ih =>
      intro m e a₁ w₁ hj harr
      rcases hj with ⟨l, rest, rfl, hf, hw⟩ | ⟨hn, hq⟩
      · obtain ⟨e₂, a₂, w₂, hj₂, harr₂⟩ := hw b (.inScope c :: k) cs hro hb hr
        have hg : gotoIn l (.inScope c :: k) = some (.code rest :: .inScope c :: k) := by simp [gotoIn, hf]
        exact ih m e₂ a₂ w₂ hj₂ (.of_steps (harr.1 _ hg) harr₂)
      · exact ⟨e, a₁, w₁, hq, out m e a₁ w₁ hn harr⟩
  obtain ⟨e, a₁, w₁, hj, harr⟩ := h b (.inScope c :: k) cs hro hb hr
  obtain ⟨e', a', w', hq, harr'⟩ := key d _ e a₁ w₁ hj harr
  exact ⟨e', a', w', hq, .of_steps (.one h0 stepR_scope) harr'⟩
end

end
end Go.Ax
