/-
  OWN WORK, TOLD ONCE FOR ALL TEXTS YtmjmpmmonelmmaaAxA TO YtmjmpmmonelmmaaAxU: an abstract machine for the program's text that the kernel can run, and the proof that it is sound: what it answers is what the program answers. No condition.
-/
import Derived.Test.YtmjmpmmonelmmaaAxMr
namespace Go.Ax
noncomputable section
open Go.RowKit

/-! ### What two ends have in common -/
theorem entsEq_eq : ∀ {a b : Ents}, entsEq a b = true → a = b
  | [], [], _ => rfl
  | (x, y, n) :: xs, (x', y', n') :: ys, h => by
    simp only [entsEq, Bool.and_eq_true] at h
    rw [avEq_eq _ _ h.1, avEq_eq _ _ h.2.1, nbeq h.2.2.1, entsEq_eq h.2.2.2]
  | [], _ :: _, h => by simp [entsEq] at h
  | _ :: _, [], h => by simp [entsEq] at h

theorem aoEq_eq {a b : AO} (h : aoEq a b = true) : a = b := by
  cases a <;> cases b <;> simp only [aoEq, Bool.false_eq_true, Bool.and_eq_true, decide_eq_true_eq] at h
  · rw [boolEq_eq h.1, avsEq_eq _ _ h.2]
  · rfl
  · rw [nbeq h.1, entsEq_eq h.2]
  · rw [nbeq h.1, h.2]
  · rw [h.1, nbeq h.2.1, h.2.2.1, nbeq h.2.2.2]

theorem joinO_some {v v' : Option AO} {x : AO} (h : joinO v v' = some x) : v = some x ∧ v' = some x := by
  unfold joinO at h
  split at h
  · split at h
    · rename_i a _ b
      cases hb : aoEq a b
      · simp [hb] at h
      · simp only [hb, cond_true, Option.some.injEq] at h
        have := aoEq_eq hb
        subst this; subst h; exact ⟨rfl, rfl⟩
    · simp at h
  · simp at h

theorem joinT_get : ∀ (a b : T AO) (k : Nat) (x : AO), (joinT a b).get k = some x → a.get k = some x ∧ b.get k = some x
  | .e, b, k, x, h => by simp [joinT, T.get_e] at h
  | .o t j v, b, k, x, h => by simp [joinT, T.get_e] at h
  | .n l v r, b, k, x, h => by
    cases b with
    | e => simp [joinT, T.get_e] at h
    | o t j u => simp [joinT, T.get_e] at h
    | n l' v' r' =>
      simp only [joinT] at h
      cases k with
      | zero => rw [T.get_n0] at h ⊢; rw [T.get_n0]; exact joinO_some h
      | succ k =>
        rw [T.get_n1] at h ⊢; rw [T.get_n1]
        cases hb : Nat.beq (k % 2) 0
        · rw [hb, cond_false] at h; simp only [cond_false]; exact joinT_get r r' _ x h
        · rw [hb, cond_true] at h; simp only [cond_true]; exact joinT_get l l' _ x h

theorem SR.sub {B : Prot} {w0 : World} {ι : Ren} {st st' : ASt} {w : World} (h : SR B w0 ι st w) (hg : ∀ k x, st'.h.get k = some x → st.h.get k = some x) (hn : st.next ≤ st'.next) : SR B w0 ι st' w :=
  ⟨h.below, h.base, fun i a hi => h.obj i a (hg i a hi), fun i a L hi ho hL => let ⟨h1, h2⟩ := h.own i a L (hg i a hi) ho hL; ⟨h1, fun j a' L' hj => h2 j a' L' (hg j a' hj)⟩,
    fun i L hL => Nat.lt_of_lt_of_le (h.dom i L hL) hn, fun i a hi => Nat.lt_of_lt_of_le (h.hdom i a (hg i a hi)) hn, fun i a L hi => h.ro i a L (hg i a hi), fun i hi => ⟨Nat.lt_of_lt_of_le (h.res i hi).1 hn, (h.res i hi).2⟩, h.glob⟩

/-! frames -/
theorem anyT_get : ∀ (t : T AV), noO t = true → ∀ k, (anyT t).get k = anyV (t.get k)
  | .e, _, k => by simp [anyT, T.get_e, anyV]
  | .o .., h, _ => by simp [noO] at h
  | .n l v r, h, k => by
    simp only [noO] at h
    cases hl : noO l
    · simp [hl] at h
    simp only [hl, cond_true] at h
    simp only [anyT]
    cases k with
    | zero => rw [T.get_n0, T.get_n0]
    | succ k =>
      rw [T.get_n1, T.get_n1]
      cases Nat.beq (k % 2) 0
      · exact anyT_get r h _
      · exact anyT_get l hl _

theorem joinFT_get : ∀ (a b : T AV), noO a = true → noO b = true → ∀ k, (joinFT a b).get k = joinV (a.get k) (b.get k)
  | .e, b, _, hb, k => by simp only [joinFT, anyT_get b hb, T.get_e]; cases b.get k <;> rfl
  | .o .., _, h, _, _ => by simp [noO] at h
  | .n l v r, b, ha, hb, k => by
    cases b with
    | e =>
      simp only [joinFT]
      rw [anyT_get _ ha, T.get_e]
      cases (T.n l v r).get k <;> rfl
    | o t j u => simp [noO] at hb
    | n l' v' r' =>
      simp only [noO] at ha hb
      cases hl : noO l
      · simp [hl] at ha
      cases hl' : noO l'
      · simp [hl'] at hb
      simp only [hl, cond_true] at ha
      simp only [hl', cond_true] at hb
      simp only [joinFT]
      cases k with
      | zero => rw [T.get_n0, T.get_n0, T.get_n0]
      | succ k =>
        rw [T.get_n1, T.get_n1, T.get_n1]
        cases Nat.beq (k % 2) 0
        · exact joinFT_get r r' ha hb _
        · exact joinFT_get l l' hl hl' _

theorem joinV_cases (v v' : Option AV) : (joinV v v').getD undefA = .any ∨ ((joinV v v').getD undefA = v.getD undefA ∧ (joinV v v').getD undefA = v'.getD undefA) := by
  cases v with
  | none => cases v' with
    | none => exact .inr ⟨rfl, rfl⟩
    | some y => exact .inl rfl
  | some x => cases v' with
    | none => exact .inl rfl
    | some y =>
      simp only [joinV]
      cases h : avEq x y
      · exact .inl rfl
      · have := avEq_eq _ _ h; subst this; exact .inr ⟨rfl, rfl⟩

theorem exEq_eq {a b : Exit} (h : exEq a b = true) : a = b := by
  cases a <;> cases b <;> simp only [exEq, Bool.false_eq_true] at h <;> first | rfl | rw [nbeq h]

def Weaker (r r' : Exit × AFr × ASt) : Prop := r.1 = r'.1 ∧ ∀ B w0 ι e a w, ExPost B w0 ι r e a w → ExPost B w0 ι r' e a w
theorem Weaker.refl (r : Exit × AFr × ASt) : Weaker r r := ⟨rfl, fun _ _ _ _ _ _ h => h⟩
theorem Weaker.trans {a b c : Exit × AFr × ASt} (h : Weaker a b) (k : Weaker b c) : Weaker a c := ⟨h.1.trans k.1, fun B w0 ι e x w p => k.2 B w0 ι e x w (h.2 B w0 ι e x w p)⟩

theorem join_ok {r r' s : Exit × AFr × ASt} (h : join r r' = some s) : Weaker r s ∧ Weaker r' s := by
  obtain ⟨e, fr, st⟩ := r
  obtain ⟨e', fr', st'⟩ := r'
  simp only [join] at h
  cases h1 : exEq e e'
  · simp [h1] at h
  cases h2 : Nat.beq fr.n fr'.n
  · simp only [h1, h2, cond_true, cond_false, reduceCtorEq] at h
  cases h3 : lEq fr.defs fr'.defs
  · simp only [h1, h2, h3, cond_true, cond_false, reduceCtorEq] at h
  cases h4 : noO fr.m
  · simp only [h1, h2, h3, h4, cond_true, cond_false, reduceCtorEq] at h
  cases h5 : noO fr'.m
  · simp only [h1, h2, h3, h4, h5, cond_true, cond_false, reduceCtorEq] at h
  simp only [h1, h2, h3, h4, h5, cond_true, Option.some.injEq] at h
  subst h
  have e1 := exEq_eq h1
  have e2 := nbeq h2
  have e3 : fr.defs = fr'.defs := by rw [lEq_eq] at h3; simpa using h3
  subst e1
  refine ⟨⟨rfl, fun B w0 ι x a w hp => ?_⟩, ⟨rfl, fun B w0 ι x a w hp => ?_⟩⟩
  · obtain ⟨p1, ι', p2, p3, p4⟩ := hp
    refine ⟨p1, ι', p2, p3.sub (fun k x hx => (joinT_get _ _ k x hx).1) (Nat.le_max_left _ _), ⟨⟨p4.hf.1, fun t => ?_⟩, p4.hd⟩⟩
    show VR ι' (((joinFT fr.m fr'.m).get t).getD undefA) _
    rw [joinFT_get _ _ h4 h5]
    rcases joinV_cases (fr.m.get t) (fr'.m.get t) with hz | ⟨hz, _⟩
    · rw [hz]; exact .any _
    · rw [hz]; exact p4.hf.2 t
  · obtain ⟨p1, ι', p2, p3, p4⟩ := hp
    refine ⟨p1, ι', p2, p3.sub (fun k x hx => (joinT_get _ _ k x hx).2) (Nat.le_max_right _ _), ⟨⟨?_, fun t => ?_⟩, ?_⟩⟩
    · show a.tmps.size = fr.n
      rw [e2]; exact p4.hf.1
    · show VR ι' (((joinFT fr.m fr'.m).get t).getD undefA) _
      rw [joinFT_get _ _ h4 h5]
      rcases joinV_cases (fr.m.get t) (fr'.m.get t) with hz | ⟨_, hz⟩
      · rw [hz]; exact .any _
      · rw [hz]; exact p4.hf.2 t
    · show DR ι' fr.defs _
      rw [e3]; exact p4.hd

/-! ### The loop, all ways -/
theorem ways_ok {run : Nat → Option (Exit × AFr × ASt)} : ∀ (n : Nat) (r : Exit × AFr × ASt), ways run n = some r → ∀ c, c < n → ∃ r', run c = some r' ∧ Weaker r' r
  | 0, r, h, c, hc => by omega
  | 1, r, h, c, hc => by
    have : c = 0 := by omega
    subst this
    exact ⟨r, h, Weaker.refl r⟩
  | m + 2, r, h, c, hc => by
    simp only [ways] at h
    split at h
    · rename_i r1 h1
      split at h
      · rename_i r2 h2
        obtain ⟨k1, k2⟩ := join_ok h
        by_cases e : c = m + 1
        · subst e; exact ⟨r2, h2, k2⟩
        · obtain ⟨r', q1, q2⟩ := ways_ok (m + 1) r1 h1 c (by omega)
          exact ⟨r', q1, q2.trans k1⟩
      · simp at h
    · simp at h

section
variable {P : Program} {E : Env} {B : Prot} {w0 : World}

theorem loopM_ok (hE : E.Ok P) {ex : ExecT} {call round : CallT} (hex : ExecOK P B w0 ex) (hc : CallOK P B w0 call) (hr : RoundOK P B w0 round) {ro rl : Option Nat} {body : Code} {Q : Exit → Act → World → Prop} :
    ∀ (d : Nat) (fr : AFr) (st : ASt) (r : Exit × AFr × ASt), loopM E call round ex ro body d fr st = some r → r.1 ≠ .normal → ∀ (ι : Ren) (w : World) (a : Act), SR B w0 ι st w → FRA ι fr a → RO ι ro rl →
      (∀ e a' w', ExPost B w0 ι r e a' w' → Q e a' w') → Code.roundsIn (FF rl) 0 P body Q d a w
  | 0, fr, st, r, h, _, _, _, _, _, _, _, _ => by simp [loopM] at h
  | d + 1, fr, st, r, h, hn, ι, w, a, hsr, hfr, hro, hQ => by
    have after : ∀ (r1 r2 : Exit × AFr × ASt), (match (some r1 : Option (Exit × AFr × ASt)) with | some (.normal, fr', st') => loopM E call round ex ro body d fr' st' | r => r) = some r2 → Weaker r2 r →
        ∀ e a' w', ExPost B w0 ι r1 e a' w' → Exit.then (Code.roundsIn (FF rl) 0 P body Q d) Q e a' w' := by
      intro r1 r2 h1 hw e a' w' hp
      obtain ⟨e1, fr1, st1⟩ := r1
      have he : e = e1 := hp.1
      subst he
      cases e with
      | normal =>
        simp only at h1
        obtain ⟨_, ι', h2, h3, h4⟩ := hp
        refine loopM_ok hE hex hc hr d fr1 st1 r2 h1 (by rw [hw.1]; exact hn) ι' w' a' h3 h4 (hro.mono h2) (fun e2 a2 w2 hp2 => hQ e2 a2 w2 (hw.2 _ _ _ _ _ _ (hp2.le h2)))
      | _ =>
        simp only [Option.some.injEq] at h1
        subst h1
        exact hQ _ a' w' (hw.2 _ _ _ _ _ _ hp)
    rw [roundsIn_succ]
    simp only [loopM] at h
    cases hb : Nat.blt (candN body fr st) 2
    · simp only [hb, cond_false] at h
      have h2 : 2 ≤ candN body fr st := by
        have : ¬ candN body fr st < 2 := fun e => by rw [← Nat.blt_eq] at e; rw [e] at hb; simp at hb
        omega
      have hall := ways_ok _ _ h
      cases hl : leftHas body with
      | none => simp [candN, hl] at h2
      | some x =>
        cases hv : evA fr x with
        | none => simp [candN, hl, hv] at h2
        | some v =>
          cases hcs : candsOf v st with
          | none => simp [candN, hl, hv, hcs] at h2
          | some z =>
            obtain ⟨i, j, since, seen, ck, cs⟩ := z
            have hcn : candN body fr st = cs.length := by simp [candN, hl, hv, hcs]
            have hne : cs ≠ [] := by intro e; subst e; simp [hcn] at h2
            rw [hcn] at hall
            refine wpIn_mono (left_ok hE hex hc hr hro hv hcs hne hsr hfr body hl (fun c hcl => ?_)) ?_
            · obtain ⟨r', h3, _⟩ := hall c hcl
              cases h4 : leftRun E call round ex ro c body fr st with
              | none => rw [h4] at h3; simp at h3
              | some r1 => exact ⟨r1, rfl⟩
            · rintro e a' w' ⟨c, r1, hcl, h3, hp⟩
              obtain ⟨r2, h4, h5⟩ := hall c hcl
              simp only [h3] at h4
              exact after r1 r2 h4 h5 e a' w' hp
    · simp only [hb, cond_true] at h
      cases h4 : ex ro body fr st with
      | none => rw [h4] at h; simp at h
      | some r1 =>
        rw [h4] at h
        exact wpIn_mono (hex ro body fr st r1 h4 ι w a rl hsr hfr hro) (after r1 r h (Weaker.refl r))
end
end
end Go.Ax
