/-
  OWN WORK, TOLD ONCE FOR ALL TEXTS YtmjmpmmonelmmaaAxA TO YtmjmpmmonelmmaaAxU: an abstract machine for the program's text that the kernel can run, and the proof that it is sound: what it answers is what the program answers. No condition.
-/
import Derived.Test.YtmjmpmmonelmmaaAxAr
namespace Go.Ax
noncomputable section
open Go.RowKit

/-! ### slices.Equal of bytes, of a slice and itself -/
def allB : List AV → Bool
  | [] => true
  | v :: vs => match v with | .int .u8 _ => allB vs | _ => false

theorem allB_at : ∀ {l : List AV}, allB l = true → ∀ {j : Nat} {v : AV}, l[j]? = some v → ∃ n, v = .int .u8 n
  | [], _, j, v, h => by simp at h
  | x :: xs, hb, j, v, h => by
    unfold allB at hb
    split at hb
    · cases j with
      | zero => simp at h; subst h; exact ⟨_, rfl⟩
      | succ j => simp at h; exact allB_at hb h
    · simp at hb

def sumEqS (f : Nat) : CallT := fun fn args st =>
  bif Nat.beq f fn then
    match args with
    | [.slice (some (i, o)) n _, .slice (some (j, p)) m _] =>
      bif (bif Nat.beq i j then bif Nat.beq o p then bif Nat.beq n m then Nat.ble n 4294967296 else false else false else false) then
        match st.h.get i with
        | some (.cells cs _) =>
          match takeL cs o n with
          | some l => bif allB l then some (.bool true, st) else none
          | none => none
        | _ => none
      else none
    | _ => none
  else none

def EqSame (P : Program) (f : Nat) : Prop := ∀ (b off n c1 c2 : Nat) (zs : List Int) (w : World), n ≤ zs.length → n ≤ 9223372036854775807 → (∀ j, j < n → w.cell? ⟨b, off + j, none⟩ = some (.int .u8 (zs.getD j 0))) →
    Calls P f #[.slice (some ⟨b, off, none⟩) n c1, .slice (some ⟨b, off, none⟩) n c2] w fun e w' => e = .returned (.bool true) ∧ ∃ k, w' = { w with drawn := k }

theorem sumEqS_ok {P : Program} {f : Nat} (henter : ∀ args w, (callFunc f args).run P w = .ok (.enter f args) w) (hw : EqSame P f) : CallsOK P (sumEqS f) := by
  intro B w0 fn args st r h ι w args' hsr hv
  unfold sumEqS at h
  cases hf : Nat.beq f fn
  · simp [hf] at h
  simp only [hf, cond_true] at h
  have := nbeq hf
  subst this
  split at h
  rotate_left
  · simp at h
  rename_i i o n c1 j p m c2
  cases h1 : Nat.beq i j
  · simp [h1] at h
  cases h2 : Nat.beq o p
  · simp [h1, h2] at h
  cases h3 : Nat.beq n m
  · simp [h1, h2, h3] at h
  cases h4 : Nat.ble n 4294967296
  · simp [h1, h2, h3, h4] at h
  simp only [h1, h2, h3, h4, cond_true] at h
  have := nbeq h1; subst this
  have := nbeq h2; subst this
  have := nbeq h3; subst this
  have hn := ble_le h4
  split at h
  rotate_left
  · simp at h
  rename_i cs rw hi
  split at h
  rotate_left
  · simp at h
  rename_i l hl
  cases hb : allB l
  · simp [hb] at h
  simp only [hb, cond_true, Option.some.injEq] at h
  subst h
  obtain ⟨a1, a2, rfl, v1, v2⟩ := list2 hv
  obtain ⟨t1, t2⟩ := takeL_ok hl
  cases v1 with
  | slice _ _ _ d1 L _ hL hc1 hl1 =>
    cases v2 with
    | slice _ _ _ d2 L' _ hL' hc2 hl2 =>
      rw [hL] at hL'; cases hL'
      refine ⟨henter _ w, ?_⟩
      have hcell : ∀ j, j < n → ∃ z, w.cell? ⟨L.b, L.p + o + j, none⟩ = some (.int .u8 z) := fun j hj => by
        have hlj : l[j]? = some (l[j]'(by omega)) := by simp [t1, hj]
        obtain ⟨z, hz⟩ := allB_at hb hlj
        have e : cs[o + j]? = some (.int .u8 z) := by rw [← t2 j hj, hlj, hz]
        obtain ⟨v', k1, k2, _⟩ := hsr.cell hi e hL
        cases k2
        exact ⟨z, by rw [Nat.add_assoc]; exact k1⟩
      let g : Nat → Int := fun j => match w.cell? ⟨L.b, L.p + o + j, none⟩ with | some (.int .u8 z) => z | _ => 0
      have hzs : ∀ j, j < n → w.cell? ⟨L.b, L.p + o + j, none⟩ = some (.int .u8 (((List.range n).map g).getD j 0)) := fun j hj => by
        obtain ⟨z, hz⟩ := hcell j hj
        rw [hz]
        simp [List.getD_eq_getElem?_getD, hj, g, hz]
      have := hw L.b (L.p + o) n d1 d2 ((List.range n).map g) w (by simp) (by omega) hzs
      rw [← callsIn_wide] at this
      refine this.mono ?_
      rintro e w' ⟨rfl, k, rfl⟩
      refine ⟨_, ι, rfl, ι.le_refl, hsr.later ⟨?_, ?_, ?_, ?_, ?_⟩, .bool true⟩
      all_goals simp
end
end Go.Ax
