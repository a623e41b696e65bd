/-
  OWN WORK, TOLD ONCE FOR ALL TEXTS YtmjmpmmonelmmaaAxA TO YtmjmpmmonelmmaaAxU: an abstract machine for the program's text that the kernel can run, and the proof that it is sound: what it answers is what the program answers. No condition.
-/
import Derived.Test.YtmjmpmmonelmmaaAxRw
namespace Go.Ax
noncomputable section
open Go.RowKit

/-! ### A code's first pieces, in one run -/
def preC : Nat → Code → Code
  | k + 1, .seq a b => .seq a (preC k b)
  | 0, .seq a _ => a
  | _, c => c
def dropC : Nat → Code → Code
  | k + 1, .seq _ b => dropC k b
  | 0, .seq _ b => b
  | _, _ => .skip
/-- is there a further piece? -/
def hasC : Nat → Code → Bool
  | k + 1, .seq _ b => hasC k b
  | 0, .seq _ _ => true
  | _, _ => false

section
variable {P : Program} {kb : Nat} {ro : Option Nat} {Q : Exit × AFr × ASt → Prop} {E : Env} {sum : CallT}

theorem Trip.preX (hE : E.Ok P) (hs : CallsOK P sum) : ∀ (k : Nat) (c : Code) (n : Nat) (fr : AFr) (st : ASt) (r : Exit × AFr × ASt), hasC k c = true → (M E (drawA E) sum n).ex ro (preC k c) fr st = some r →
    (r.1 = .normal → Trip P kb ro (dropC k c) r.2.1 r.2.2 Q) → (r.1 ≠ .normal → Q r) → Trip P kb ro c fr st Q
  | 0, c, n, fr, st, r, hc, h, hn, he => by
    cases c <;> simp only [hasC, Bool.false_eq_true] at hc
    rename_i a b
    refine Trip.seq (R := fun q => q = r) (Trip.exec hE hs h rfl) (fun fr' st' hr => ?_) (fun e fr' st' hne hr => ?_)
    · subst hr; exact hn rfl
    · subst hr; exact he hne
  | k + 1, c, n, fr, st, r, hc, h, hn, he => by
    cases c <;> simp only [hasC, Bool.false_eq_true] at hc
    rename_i a b
    cases n with
    | zero => cases h
    | succ n =>
      have h2 : (match (M E (drawA E) sum n).ex ro a fr st with | some (.normal, fr', st') => (M E (drawA E) sum n).ex ro (preC k b) fr' st' | r => r) = some r := h
      cases hx : (M E (drawA E) sum n).ex ro a fr st with
      | none => rw [hx] at h2; cases h2
      | some q =>
        obtain ⟨e, fr1, st1⟩ := q
        rw [hx] at h2
        refine Trip.seq (R := fun q => q = (e, fr1, st1)) (Trip.exec hE hs hx rfl) (fun fr' st' hr => ?_) (fun e' fr' st' hne hr => ?_)
        · cases hr
          exact Trip.preX hE hs k b n fr1 st1 r hc h2 hn he
        · cases hr
          have : r = (e, fr1, st1) := by cases e <;> simp_all
          subst this
          exact he hne

/-- an end, up to what is forgotten -/
def Stops (kb : Nat) (e : Exit) (F : AFr) (S : ASt) (r : Exit × AFr × ASt) : Prop := r.1 = e ∧ Wk kb r.2.1 r.2.2 F S

theorem Stops.can {e : Exit} {F : AFr} {S : ASt} {kf ko : List Nat} {r : Exit × AFr × ASt} (h : Stops kb e F S (canR kf ko r)) : Stops kb e F S r := ⟨h.1, Wk.trans (Wk.can kb kf ko r.2.1 r.2.2) h.2⟩

/-- a run that asks of the first pieces: where it goes on, where it ends -/
theorem Trip.preY (hE : E.Ok P) (hs : CallsOK P sum) {k : Nat} {c : Code} {n : Nat} {fls : List (Nat × Fl)} {rf fl : Fl} {fr : AFr} {st : ASt} {y : An} {kf ko : List Nat} (hc : hasC k c = true)
    {Q1 : Exit × AFr × ASt → Prop} (h : ((TM E sum fls rf n).ex fl ro (preC k c) fr st).allY (fun r => Q1 (canR kf ko r)) y)
    (hn : ∀ F S, Q1 (.normal, F, S) → Trip P kb ro (dropC k c) F S Q) (he : ∀ r, r.1 ≠ .normal → Q1 (canR kf ko r) → Q r) : Trip P kb ro c fr st Q := by
  obtain ⟨r, h1, h2⟩ := TM_ex (Tr.allY_all _ y h)
  refine Trip.preX hE hs k c n fr st r hc h1 (fun hr => ?_) (fun hr => he r hr h2)
  obtain ⟨e, fr', st'⟩ := r
  simp only at hr
  subst hr
  exact Trip.less (Wk.can kb kf ko fr' st') (hn _ _ h2)

/-- the objects that are listed -/
theorem Wk.pick {fr : AFr} {st : ASt} {ls : List (Nat × AO)} {nx : Nat} (h : ∀ p, p ∈ ls → st.h.get p.1 = some p.2) (hn : st.next ≤ nx) : Wk kb fr st fr (mkSt ls nx) := fun B w0 κ hb ι w a hk h1 h2 =>
  ⟨ι, hk, SR.sub h1 (fun k x hx => by
    rcases foldl_get D ls .e k x hx with ⟨p, p1, p2, p3⟩ | hx
    · subst p2; subst p3; exact h p p1
    · rw [T.get_e] at hx; cases hx) hn, h2⟩

/-- what a memory of listed objects says of the memory it came of -/
theorem canS_get {ko : List Nat} {st : ASt} {S : ASt} (h : canS ko st = S) : ∀ k x, S.h.get k = some x → st.h.get k = some x := fun k x hx => by
  subst h
  exact canL_get st.h ko .e k (fun j a hj => by rw [T.get_e] at hj; cases hj) x hx
end

theorem still_idx {E : Env} {t : TypeId} {z i o n k : Nat} {c : Cap} {kd : IntKind} {st : ASt} (hT : sliceT E t = some z) (hk : k < n) :
    still st (aIndexAddr E t (.slice (some (i, o)) n c) (.int kd (.ofNat k))) = some (.ptr (some (i, o + k * z)), st) := by rw [idx_at hT hk]; rfl

theorem ltF_nn (a b : Nat) : ltF (.ofNat a) (.ofNat b) = decide (a < b) := ltF_nat a b
theorem wrap_succ {i : Nat} (h : i < 4611686018427387904) : wrapF .i64 (.ofNat i + .ofNat 1) = .ofNat (i + 1) := by
  have : (Int.ofNat i + Int.ofNat 1) = Int.ofNat (i + 1) := rfl
  rw [this]; exact wrap_nat (by omega)
theorem eqF_t {a b : Int} (h : eqF a b = true) : a = b := by rw [eqF_eq] at h; simpa using h
theorem eqF_f {a b : Int} (h : eqF a b = false) : a ≠ b := by rw [eqF_eq] at h; simpa using h
theorem neqF_f {a b : Int} (h : (!eqF a b) = false) : a = b := eqF_t (by simpa using h)
theorem neqF_t {a b : Int} (h : (!eqF a b) = true) : a ≠ b := eqF_f (by simpa using h)
theorem ltF_t {a b : Int} (h : ltF a b = true) : a < b := by rw [ltF_eq] at h; simpa using h
theorem ltF_f {a b : Int} (h : ltF a b = false) : b ≤ a := by rw [ltF_eq] at h; simp at h; omega

/-- frames by their places -/
theorem Wk.heldX {kb n : Nat} {l0 : List (Nat × AV)} (ids : List Nat) (hp : preB kb 0 ids = true) (hn : noDup ids = true) {st : ASt} (ks : List Nat) {lf : List (Nat × AV)} {ls : List (Nat × AO)}
    (hf : frE ids (xFr l0 n) ks = some lf) (hs : StP ids st ls) : Wk kb (xFr l0 n) st (xFr lf n) (mkSt ls ids.length) := Wk.heldP ids hp hn (fr := xFr l0 n) rfl hf hs
end
end Go.Ax
