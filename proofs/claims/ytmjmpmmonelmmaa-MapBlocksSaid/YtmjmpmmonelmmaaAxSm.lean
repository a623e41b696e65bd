/-
  OWN WORK, TOLD ONCE FOR ALL TEXTS YtmjmpmmonelmmaaAxA TO YtmjmpmmonelmmaaAxU: an abstract machine for the program's text that the kernel can run, and the proof that it is sound: what it answers is what the program answers. No condition.
-/
import Derived.Test.YtmjmpmmonelmmaaAxSf
namespace Go.Ax
noncomputable section
open Go.RowKit

/-! ### sha.Sum of any slice, as summaries -/
def sumSumZ (fs : Nat) : CallT := fun fn args st =>
  bif Nat.beq fs fn then
    match args with
    | [.slice (some (i, o)) n _] =>
      bif Nat.blt 0 n then
        bif Nat.blt n 1099511627776 then
          match st.h.get i with
          | some (.cells cs _) =>
            match takeL cs o n with
            | some l =>
              match bytesZ l with
              | some bs => some (outI (sumZ n fun j => bs.getD j 0), st)
              | none => none
            | none => none
          | _ => none
        else none
      else none
    | _ => none
  else none

theorem blt_lt {a b : Nat} (h : Nat.blt a b = true) : a < b := by rw [← Nat.blt_eq]; exact h

theorem sumSumZ_ok {P : Program} {fs : Nat} (hrun : ∀ (n : Nat) (b : Nat → Int), 0 < n → n < 1099511627776 → AtRow P fs [] ((List.range n).map b) (outI (sumZ n b))) : CallsOK P (sumSumZ fs) := by
  intro B w0 fn args st r h ι w args' hsr hv
  unfold sumSumZ at h
  cases hf : Nat.beq fs fn
  · simp [hf] at h
  simp only [hf, cond_true] at h
  have := nbeq hf
  subst this
  split at h
  rotate_left
  · simp at h
  rename_i i o n cap
  cases h1 : Nat.blt 0 n
  · simp [h1] at h
  cases h2 : Nat.blt n 1099511627776
  · simp [h1, h2] at h
  simp only [h1, h2, cond_true] at h
  split at h
  rotate_left
  · simp at h
  rename_i cs rw hi
  split at h
  rotate_left
  · simp at h
  rename_i l hl
  split at h
  rotate_left
  · simp at h
  rename_i bs hbs
  simp only [Option.some.injEq] at h
  have hll := (takeL_ok hl).1
  have hb := bytesZ_eq hbs
  have hlen : bs.length = n := by rw [hb] at hll; simpa using hll
  have hbl := list_of_range bs
  rw [hlen] at hbl
  have hr := hrun n (fun j => bs.getD j 0) (blt_lt h1) (blt_lt h2)
  rw [← hbl] at hr
  have := local_row (pre := []) (bs := bs) (v := outI (sumZ n fun j => bs.getD j 0)) (f := fs) (by have := blt_lt h1; omega) rfl (outI_pure _) hr hsr hi (by rw [hlen, hl, hb]) (args' := args') (cap := cap) (by rw [hlen]; exact hv)
  rw [← h]
  exact this

/-- of a slice without elements -/
def sumSum0 (fs : Nat) (v : AV) : CallT := fun fn args st =>
  bif Nat.beq fs fn then
    match args with
    | [.slice none 0 (.known 0)] => some (v, st)
    | [.slice0] => some (v, st)
    | [.slice (some _) 0 _] => some (v, st)
    | _ => none
  else none

theorem sumSum0_ok {P : Program} {E : Env} (hE : E.Ok P) {sum : CallT} (hs : CallsOK P sum) {n fs : Nat} {v : AV} (hp : pureV v = true) (henter : ∀ args w, (callFunc fs args).run P w = .ok (.enter fs args) w)
    (h1 : ans ((M E (drawA E) sum n).call fs [.slice none 0 (.known 0)] st0) = some v) (h2 : ans ((M E (drawA E) sum n).call fs [.slice0] st0) = some v) : CallsOK P (sumSum0 fs v) := by
  intro B w0 fn args st r h ι w args' hsr hv
  unfold sumSum0 at h
  cases hf : Nat.beq fs fn
  · simp [hf] at h
  simp only [hf, cond_true] at h
  have := nbeq hf
  subst this
  have key : ∀ (as : List AV), ans ((M E (drawA E) sum n).call fs as st0) = some v → VRs (fun _ => none) as args' → (callFunc fs args').run P w = .ok (.enter fs args') w ∧ CallsIn Fence.wide 0 P fs args' w (Post B w0 ι (v, st)) := fun as hr hva => by
    obtain ⟨st2, hq⟩ := ans_some hr
    obtain ⟨_, hc⟩ := (M_ok hE (drawA_ok hE) hs n).call (Old w) w fs as st0 _ hq _ w args' (st0_ok w hsr.globw) hva
    refine ⟨henter args' w, hc.mono ?_⟩
    rintro e w' ⟨x, ι', rfl, _, k2, k3⟩
    exact ⟨x, ι, rfl, ι.le_refl, hsr.later ⟨k2.below.os, k2.below.tape, k2.below.output, k2.below.size, fun k hk => k2.below.block k (.inr hk)⟩, pureV_VR hp k3⟩
  split at h
  · simp only [Option.some.injEq] at h; subst h
    obtain ⟨a, rfl, ha⟩ := list1 hv
    refine key [.slice none 0 (.known 0)] h1 ⟨rfl, fun i x x' hx hx' => ?_⟩
    match i with
    | 0 => simp at hx hx'; subst hx; subst hx'; cases ha; exact .sliceN
    | i + 1 => simp at hx
  · simp only [Option.some.injEq] at h; subst h
    obtain ⟨a, rfl, ha⟩ := list1 hv
    refine key [.slice0] h2 ⟨rfl, fun i x x' hx hx' => ?_⟩
    match i with
    | 0 => simp at hx hx'; subst hx; subst hx'; cases ha; exact .slice0 _ _
    | i + 1 => simp at hx
  · simp only [Option.some.injEq] at h; subst h
    obtain ⟨a, rfl, ha⟩ := list1 hv
    refine key [.slice0] h2 ⟨rfl, fun i x x' hx hx' => ?_⟩
    match i with
    | 0 => simp at hx hx'; subst hx; subst hx'; cases ha; exact .slice0 _ _
    | i + 1 => simp at hx
  · simp at h
end
end Go.Ax
