/-
  OWN WORK, TOLD ONCE FOR ALL TEXTS YtmjmpmmonelmmaaAxA TO YtmjmpmmonelmmaaAxU: an abstract machine for the program's text that the kernel can run, and the proof that it is sound: what it answers is what the program answers. No condition.
-/
import Derived.Test.YtmjmpmmonelmmaaAxR
namespace Go.Ax
noncomputable section
open Go.RowKit Go.Region

theorem val_append : ∀ (ps qs : List Rec) (k : Nat) (D : Nat → Bool) (g : Tmp → AV), val (ps ++ qs) k D g = val qs (k + ps.length) D (val ps k D g)
  | [], qs, k, D, g => by simp [val]
  | p :: ps, qs, k, D, g => by
    simp only [List.cons_append, val, val_append ps qs, List.length_cons]
    congr 1; omega

theorem lastH_append : ∀ (ps qs : List Rec) (k : Nat) (D : Nat → Bool) (c : Option Nat × ASt), lastH (ps ++ qs) k D c = lastH qs (k + ps.length) D (lastH ps k D c)
  | [], qs, k, D, c => by simp [lastH]
  | p :: ps, qs, k, D, c => by
    simp only [List.cons_append, lastH, lastH_append ps qs, List.length_cons]
    congr 1; omega

theorem val_below (ps qs : List Rec) (g : Tmp → AV) (t : Tmp) : val (ps ++ qs) 0 (fun j => decide (j < ps.length)) g t = val ps 0 (fun _ => true) g t := by
  rw [val_append, val_none]
  · exact val_congr ps 0 _ _ g g rfl (fun j r hr _ => by have := (List.getElem?_eq_some_iff.1 hr).1; simp [this])
  · intro j r _ _; simp

theorem lastH_below (ps qs : List Rec) (c : Option Nat × ASt) : lastH (ps ++ qs) 0 (fun j => decide (j < ps.length)) c = lastH ps 0 (fun _ => true) c := by
  rw [lastH_append, lastH_none]
  · exact lastH_congr ps 0 _ _ c (fun j r hr _ => by have := (List.getElem?_eq_some_iff.1 hr).1; simp [this])
  · intro j r _ _; simp

theorem frees_append : ∀ (ps qs : List Rec) (k : Nat), frees (ps ++ qs) k = frees ps k ++ frees qs (k + ps.length)
  | [], qs, k => by simp [frees]
  | p :: ps, qs, k => by
    have e : k + 1 + ps.length = k + (p :: ps).length := by simp; omega
    simp only [List.cons_append, frees, frees_append ps qs, e]
    cases p.ob <;> simp

theorem frees_mem : ∀ {rs : List Rec} {k p : Nat} {a : AO}, (p, a) ∈ frees rs k → ∃ i r, p = k + i ∧ rs[i]? = some r ∧ r.ob = some a
  | r :: rs, k, p, a, h => by
    simp only [frees] at h
    cases ho : r.ob with
    | none =>
      rw [ho] at h
      obtain ⟨i, r', h1, h2, h3⟩ := frees_mem h
      exact ⟨i + 1, r', by omega, by simpa using h2, h3⟩
    | some b =>
      rw [ho] at h
      rcases List.mem_cons.1 h with e | h
      · cases e; exact ⟨0, r, rfl, rfl, ho⟩
      · obtain ⟨i, r', h1, h2, h3⟩ := frees_mem h
        exact ⟨i + 1, r', by omega, by simpa using h2, h3⟩

theorem mem_frees : ∀ {rs : List Rec} {k i : Nat} {r : Rec} {a : AO}, rs[i]? = some r → r.ob = some a → (k + i, a) ∈ frees rs k
  | [], _, _, _, _, h, _ => by simp at h
  | r0 :: rs, k, i, r, a, h, ha => by
    simp only [frees]
    cases i with
    | zero =>
      simp only [List.getElem?_cons_zero, Option.some.injEq] at h; subst h
      rw [ha]; exact List.mem_cons_self
    | succ i =>
      have := mem_frees (k := k + 1) (rs := rs) (by simpa using h) ha
      have e : k + 1 + i = k + (i + 1) := by omega
      rw [e] at this
      cases r0.ob with
      | none => exact this
      | some _ => exact List.mem_cons_of_mem _ this

theorem frees0 {rs : List Rec} {p : Nat} {a : AO} : (p, a) ∈ frees rs 0 ↔ ∃ r, rs[p]? = some r ∧ r.ob = some a := by
  constructor
  · intro h
    obtain ⟨i, r, h1, h2, h3⟩ := frees_mem h
    have : p = i := by omega
    subst this
    exact ⟨r, h2, h3⟩
  · rintro ⟨r, h1, h2⟩
    have := mem_frees (k := 0) h1 h2
    rwa [Nat.zero_add] at this

theorem frees_fun {rs : List Rec} (p : Nat) (a b : AO) (h : (p, a) ∈ frees rs 0) (h' : (p, b) ∈ frees rs 0) : a = b := by
  obtain ⟨r, h1, h2⟩ := frees0.1 h
  obtain ⟨r', h3, h4⟩ := frees0.1 h'
  rw [h1] at h3; cases h3
  rw [h2] at h4; cases h4; rfl

theorem bit_zero (p : Nat) : bit 0 p = false := by simp [bit]

theorem qm_true {m g p : Nat} : qm m g p = true ↔ bit m p = true ∧ bit g p = false := by
  simp only [qm]; cases bit g p <;> simp

def RunP (E : Env) (f : Oper → AFr → ASt → Option (AV × ASt)) (wd : AFr → Oper → Bool) (nb : Nat) (bs : List Nat) (fr0 : AFr) (st0 : ASt) (os : List Oper) (ps rs : List Rec) (fr' : AFr) (g : Nat) (st' : ASt) : Prop :=
    rs.length = os.length ∧
    (∀ (i : Nat) r, rs[i]? = some r → os[i]? = some r.o ∧ r.fr.n = fr0.n ∧ (∃ fr1, r.fr.put r.o.dst r.v = some fr1) ∧ (∀ t, (r.fr.m.get t).getD undefA = val (ps ++ rs) 0 (fun j => decide (j < ps.length + i)) (base fr0) t) ∧
      ((isFree E r.o = true ∧ r.hs = none ∧ ((wd r.fr r.o = true ∧ ∃ x, aFree E r.o r.fr = some x ∧ r.ob = some x.1 ∧ r.v = x.2.val (nb + (ps.length + i))) ∨ (wd r.fr r.o = false ∧ r.ob = none ∧ r.v = undefA))) ∨
       (isFree E r.o = false ∧ r.ob = none ∧ ∃ s', f r.o r.fr (putF nb (qm (bs.getD (ps.length + i) 0) (gm bs (lastH (ps ++ rs) 0 (fun j => decide (j < ps.length + i)) (none, st0)).1)) (frees (ps ++ rs) 0) (lastH (ps ++ rs) 0 (fun j => decide (j < ps.length + i)) (none, st0)).2) = some (r.v, s') ∧
          (r.hs = if isLight E r.o = true then none else some s') ∧
          (isLight E r.o = false → Nat.land (gm bs (lastH (ps ++ rs) 0 (fun j => decide (j < ps.length + i)) (none, st0)).1) (bs.getD (ps.length + i) 0) = gm bs (lastH (ps ++ rs) 0 (fun j => decide (j < ps.length + i)) (none, st0)).1)))) ∧
    (fr'.n = fr0.n ∧ fr'.defs = fr0.defs ∧ ∀ t, (fr'.m.get t).getD undefA = val (ps ++ rs) 0 (fun _ => true) (base fr0) t) ∧
    (st' = (lastH (ps ++ rs) 0 (fun _ => true) (none, st0)).2 ∧ g = gm bs (lastH (ps ++ rs) 0 (fun _ => true) (none, st0)).1)

section
variable {P : Program} {E : Env} {f : Oper → AFr → ASt → Option (AV × ASt)} {wd : AFr → Oper → Bool} {nb : Nat} {bs : List Nat} {fr0 : AFr} {st0 : ASt}

theorem run1_ok (hl : ∀ o fr st r, f o fr st = some r → isLight E o = true → r.2 = st) (hm : ∀ i p, bit (bs.getD i 0) p = true → p < i) :
    ∀ (os : List Oper) (ps : List Rec) (fr : AFr) (rs : List Rec) (fr' : AFr) (g : Nat) (st' : ASt),
    run1 E f wd nb bs os ps.length (frees ps 0) (gm bs (lastH ps 0 (fun _ => true) (none, st0)).1) fr (lastH ps 0 (fun _ => true) (none, st0)).2 = some (rs, fr', g, st') →
    fr.n = fr0.n → fr.defs = fr0.defs → (∀ t, (fr.m.get t).getD undefA = val ps 0 (fun _ => true) (base fr0) t) →
    RunP E f wd nb bs fr0 st0 os ps rs fr' g st'
  | [], ps, fr, rs, fr', g, st', h, hn, hd, hv => by
    simp only [run1, Option.some.injEq, Prod.mk.injEq] at h
    obtain ⟨rfl, rfl, rfl, rfl⟩ := h
    exact ⟨rfl, fun i r hr => by simp at hr, ⟨hn, hd, by simpa using hv⟩, by simp, by simp⟩
  | o :: os, ps, fr, rs, fr', g, st', h, hn, hd, hv => by
    -- one step, whatever it was
    have one : ∀ (r : Rec) (rs1 : List Rec) (fr1 : AFr), r.o = o → r.fr = fr → fr.put o.dst r.v = some fr1 →
        run1 E f wd nb bs os (ps ++ [r]).length (frees (ps ++ [r]) 0) (gm bs (lastH (ps ++ [r]) 0 (fun _ => true) (none, st0)).1) fr1 (lastH (ps ++ [r]) 0 (fun _ => true) (none, st0)).2 = some (rs1, fr', g, st') →
        ((isFree E r.o = true ∧ r.hs = none ∧ ((wd r.fr r.o = true ∧ ∃ x, aFree E r.o r.fr = some x ∧ r.ob = some x.1 ∧ r.v = x.2.val (nb + ps.length)) ∨ (wd r.fr r.o = false ∧ r.ob = none ∧ r.v = undefA))) ∨
         (isFree E r.o = false ∧ r.ob = none ∧ ∃ s', f r.o r.fr (putF nb (qm (bs.getD ps.length 0) (gm bs (lastH ps 0 (fun _ => true) (none, st0)).1)) (frees ps 0) (lastH ps 0 (fun _ => true) (none, st0)).2) = some (r.v, s') ∧
            (r.hs = if isLight E r.o = true then none else some s') ∧
            (isLight E r.o = false → Nat.land (gm bs (lastH ps 0 (fun _ => true) (none, st0)).1) (bs.getD ps.length 0) = gm bs (lastH ps 0 (fun _ => true) (none, st0)).1))) →
        rs = r :: rs1 → RunP E f wd nb bs fr0 st0 (o :: os) ps rs fr' g st' := by
      intro r rs1 fr1 hro hrf hp hrun hcase hrs
      obtain ⟨p1, p2, p3⟩ := put_look hp
      have hone : ∀ t, val (ps ++ [r]) 0 (fun _ => true) (base fr0) t = if o.dst = some t then r.v else val ps 0 (fun _ => true) (base fr0) t := fun t => by
        rw [val_append]; simp [val, hro]
      obtain ⟨i1, i2, i3, i4⟩ := run1_ok hl hm os (ps ++ [r]) fr1 rs1 fr' g st' hrun (by rw [p2, hn]) (by rw [p3, hd]) (fun t => by rw [p1, hone, hv])
      have eap : ps ++ r :: rs1 = ps ++ [r] ++ rs1 := by simp
      subst hrs
      unfold RunP
      rw [eap]
      refine ⟨by simp [i1], fun i r' hr' => ?_, i3, i4⟩
      cases i with
      | zero =>
        simp only [List.getElem?_cons_zero, Option.some.injEq] at hr'; subst hr'
        have e1 : ps ++ [r] ++ rs1 = ps ++ ([r] ++ rs1) := by simp
        refine ⟨by rw [hro]; rfl, by rw [hrf]; exact hn, ⟨fr1, by rw [hro, hrf]; exact hp⟩, fun t => ?_, ?_⟩
        · rw [e1, Nat.add_zero, val_below, hrf]; exact hv t
        · rw [e1, Nat.add_zero, lastH_below, frees_append, putF_append]
          · exact hcase
          · intro p a hpa
            obtain ⟨i, _, h1, _, _⟩ := frees_mem hpa
            cases hq : qm (bs.getD ps.length 0) (gm bs (lastH ps 0 (fun _ => true) (none, st0)).1) p with
            | false => rfl
            | true =>
              have := hm _ _ (qm_true.1 hq).1
              omega
      | succ i =>
        have := i2 i r' (by simpa using hr')
        have e2 : (ps ++ [r]).length + i = ps.length + (i + 1) := by simp; omega
        rw [e2] at this
        simpa using this
    -- what stands behind a step
    have calm : ∀ (r : Rec), r.hs = none → lastH (ps ++ [r]) 0 (fun _ => true) (none, st0) = lastH ps 0 (fun _ => true) (none, st0) := fun r hr => by
      rw [lastH_append]; simp [lastH, hr]
    have loud : ∀ (r : Rec) (s : ASt), r.hs = some s → lastH (ps ++ [r]) 0 (fun _ => true) (none, st0) = (some ps.length, s) := fun r s hr => by
      rw [lastH_append]; simp [lastH, hr]
    have fnone : ∀ (r : Rec), r.ob = none → frees (ps ++ [r]) 0 = frees ps 0 := fun r hr => by rw [frees_append]; simp [frees, hr]
    have fsome : ∀ (r : Rec) (a : AO), r.ob = some a → frees (ps ++ [r]) 0 = frees ps 0 ++ [(ps.length, a)] := fun r a hr => by rw [frees_append]; simp [frees, hr]
    have len : ∀ (r : Rec), (ps ++ [r]).length = ps.length + 1 := fun r => by simp
    simp only [run1] at h
    cases hfree : isFree E o
    · simp only [hfree, cond_false] at h
      split at h
      · simp at h
      rename_i v st1 hf
      split at h
      · simp at h
      rename_i fr1 hp
      cases hli : isLight E o
      · simp only [hli, cond_false] at h
        cases hla : Nat.beq (Nat.land (gm bs (lastH ps 0 (fun _ => true) (none, st0)).1) (bs.getD ps.length 0)) (gm bs (lastH ps 0 (fun _ => true) (none, st0)).1)
        · simp only [hla, cond_false, reduceCtorEq] at h
        simp only [hla, cond_true] at h
        split at h
        · simp at h
        rename_i rs1 z hr1
        simp only [Option.some.injEq, Prod.mk.injEq] at h
        obtain ⟨h1, h2⟩ := h
        subst h2
        refine one ⟨o, fr, v, some st1, none⟩ rs1 fr1 rfl rfl hp ?_ (.inr ⟨hfree, rfl, st1, hf, by simp [hli], fun _ => nbeq hla⟩) h1.symm
        rw [len, fnone _ rfl, loud _ st1 rfl]
        exact hr1
      · simp only [hli, cond_true] at h
        split at h
        · simp at h
        rename_i rs1 z hr1
        simp only [Option.some.injEq, Prod.mk.injEq] at h
        obtain ⟨h1, h2⟩ := h
        subst h2
        refine one ⟨o, fr, v, none, none⟩ rs1 fr1 rfl rfl hp ?_ (.inr ⟨hfree, rfl, st1, hf, by simp [hli], fun h => by rw [hli] at h; cases h⟩) h1.symm
        rw [len, fnone _ rfl, calm _ rfl]
        exact hr1
    · simp only [hfree, cond_true] at h
      cases hw : wd fr o
      · simp only [hw, cond_false] at h
        split at h
        · simp at h
        rename_i fr1 hp
        split at h
        · simp at h
        rename_i rs1 z hr1
        simp only [Option.some.injEq, Prod.mk.injEq] at h
        obtain ⟨h1, h2⟩ := h
        subst h2
        refine one ⟨o, fr, undefA, none, none⟩ rs1 fr1 rfl rfl hp ?_ (.inl ⟨hfree, rfl, .inr ⟨hw, rfl, rfl⟩⟩) h1.symm
        rw [len, fnone _ rfl, calm _ rfl]
        exact hr1
      · simp only [hw, cond_true] at h
        split at h
        · simp at h
        rename_i x hx
        split at h
        · simp at h
        rename_i fr1 hp
        split at h
        · simp at h
        rename_i rs1 z hr1
        simp only [Option.some.injEq, Prod.mk.injEq] at h
        obtain ⟨h1, h2⟩ := h
        subst h2
        refine one ⟨o, fr, x.2.val (nb + ps.length), none, some x.1⟩ rs1 fr1 rfl rfl hp ?_ (.inl ⟨hfree, rfl, .inl ⟨hw, x, hx, rfl, rfl⟩⟩) h1.symm
        rw [len, fsome _ _ rfl, calm _ rfl]
        exact hr1

theorem run_ok (hl : ∀ o fr st r, f o fr st = some r → isLight E o = true → r.2 = st) (hm : ∀ i p, bit (bs.getD i 0) p = true → p < i) {ops : List Oper} {fr : AFr} {st : ASt} {rs : List Rec} {fr' : AFr} {g : Nat} {st' : ASt}
    (h : run1 E f wd nb bs ops 0 [] 0 fr st = some (rs, fr', g, st')) : RunOK E f wd nb bs ops fr st rs fr' g st' := by
  obtain ⟨h1, h2, h3, h4⟩ := run1_ok (fr0 := fr) (st0 := st) hl hm ops [] fr rs fr' g st' h rfl rfl (fun t => rfl)
  exact ⟨h1, fun i r hr => by simpa using h2 i r hr, by simpa using h3, by simpa using h4⟩

theorem masks_len (ops : List Oper) : (masks ops).length = ops.length := by
  have key : ∀ (os : List Oper) (bs : List Nat), (masksGo os bs).length = bs.length + os.length := by
    intro os
    induction os with
    | nil => intro bs; simp [masksGo]
    | cons o os ih => intro bs; simp only [masksGo, force_eq]; rw [ih]; simp; omega
  simpa [masks] using key ops []

theorem mask_lt {ops : Array Oper} (hd : Down ops) (i p : Nat) (h : bit ((masks ops.toList).getD i 0) p = true) : p < i := by
  cases ho : ops[i]? with
  | none =>
    have hle : ops.size ≤ i := by simpa using ho
    have : (masks ops.toList).getD i 0 = 0 := by
      rw [List.getD_eq_getElem?_getD, List.getElem?_eq_none (by rw [masks_len]; simpa using hle)]; rfl
    rw [this, bit_zero] at h; cases h
  | some o =>
    have := closed_bit (D := fun j => decide (j < i)) hd (fun j q hq hj e he hb => by
      have := hd j q hq e he hb
      simp only [decide_eq_true_eq] at hj ⊢; omega) i o p ho (fun e he hb => by have := hd i o ho e he hb; simpa using this) h
    simpa using this

/-! ### The light ones' second readings -/
theorem heavies_get (bs : List Nat) : ∀ (rs : List Rec) (k i : Nat) (r : Rec) (s : ASt), rs[i]? = some r → r.hs = some s → (⟨k + i, bs.getD (k + i) 0, s⟩ : Hv) ∈ heavies rs bs k
  | [], _, _, _, _, h, _ => by simp at h
  | r0 :: rs, k, i, r, s, h, hs => by
    cases i with
    | zero =>
      simp only [List.getElem?_cons_zero, Option.some.injEq] at h; subst h
      simp only [heavies, hs]
      exact List.mem_cons_self
    | succ i =>
      have := heavies_get bs rs (k + 1) i r s (by simpa using h) hs
      have e : k + 1 + i = k + (i + 1) := by omega
      rw [e] at this
      simp only [heavies]
      cases r0.hs with
      | none => exact this
      | some _ => exact List.mem_cons_of_mem _ this

theorem heavies_mem (bs : List Nat) : ∀ (rs : List Rec) (k : Nat) (g : Hv), g ∈ heavies rs bs k → ∃ i r, rs[i]? = some r ∧ r.hs = some g.s ∧ g.i = k + i
  | r0 :: rs, k, g, h => by
    simp only [heavies] at h
    cases hs : r0.hs with
    | none =>
      rw [hs] at h
      obtain ⟨i, r, h1, h2, h3⟩ := heavies_mem bs rs (k + 1) g h
      exact ⟨i + 1, r, by simpa using h1, h2, by omega⟩
    | some s =>
      rw [hs] at h
      rcases List.mem_cons.1 h with rfl | h
      · exact ⟨0, r0, rfl, hs, rfl⟩
      · obtain ⟨i, r, h1, h2, h3⟩ := heavies_mem bs rs (k + 1) g h
        exact ⟨i + 1, r, by simpa using h1, h2, by omega⟩

theorem okRecs_get {H : List Hv} {s0 : ASt} {fs : List (Nat × AO)} : ∀ (rs : List Rec) (k i : Nat) (r : Rec), okRecs E f nb fs H s0 bs rs k = true → rs[i]? = some r → okRec E f nb fs H s0 (k + i) (bs.getD (k + i) 0) r = true
  | [], _, _, _, _, h => by simp at h
  | r0 :: rs, k, i, r, h, hr => by
    simp only [okRecs] at h
    cases hb : okRec E f nb fs H s0 k (bs.getD k 0) r0
    · rw [hb] at h; exact absurd h (by simp)
    · rw [hb, cond_true] at h
      cases i with
      | zero => simp only [List.getElem?_cons_zero, Option.some.injEq] at hr; subst hr; exact hb
      | succ i =>
        have := okRecs_get rs (k + 1) i r h (by simpa using hr)
        have e : k + 1 + i = k + (i + 1) := by omega
        rwa [e] at this

theorem reEv_ok {r : Rec} {s : ASt} (h : reEv f r s = true) : ∃ s', f r.o r.fr s = some (r.v, s') := by
  simp only [reEv] at h
  split at h
  · rename_i v s' hf
    rw [avEq_eq _ _ h] at hf
    exact ⟨s', hf⟩
  · simp at h

/-- at whatever is done, a light operation that comes up answers what it answered -/
theorem light_again (hpure : ∀ o fr st r, f o fr st = some r → isPure E o = true → ∀ st', f o fr st' = some (r.1, st'))
    {ops : Array Oper} {fr : AFr} {st : ASt} {rs : List Rec} {fr' : AFr} {g : Nat} {st' : ASt} (hT : TextOK E ops) (hR : RunOK E f wd nb (masks ops.toList) ops.toList fr st rs fr' g st')
    (hok : heavies rs (masks ops.toList) 0 = [] ∨ okRecs E f nb (frees rs 0) (heavies rs (masks ops.toList) 0) st (masks ops.toList) rs 0 = true)
    {D : Nat → Bool} (hc : Closed ops D) {i : Nat} {r : Rec} (hr : rs[i]? = some r) (hnf : isFree E r.o = false) (hlight : r.hs = none) (hD : D i = false) (hready : ∀ e, e ∈ r.o.after → binds .any e = true → D e.on = true) :
    ∃ s', f r.o r.fr (putF nb (qm ((masks ops.toList).getD i 0) (gm (masks ops.toList) (lastH rs 0 D (none, st)).1)) (frees rs 0) (lastH rs 0 D (none, st)).2) = some (r.v, s') := by
  obtain ⟨ho, hn, _, hfr, hcase⟩ := hR.at_ i r hr
  rcases hcase with ⟨h1, _⟩ | ⟨_, _, s', hf, hs, _⟩
  · rw [hnf] at h1; cases h1
  have ho' : ops[i]? = some r.o := by simpa using ho
  have hrec : ∀ {j : Nat} {q : Rec}, rs[j]? = some q → ops[j]? = some q.o := fun {j q} hq => by have := (hR.at_ j q hq).1; simpa using this
  -- what stands before i is done; what i stands before is not
  have hbef : ∀ j, bit ((masks ops.toList).getD i 0) j = true → D j = true := fun j hj => closed_bit hT.down hc i r.o j ho' hready hj
  have haft : ∀ (j : Nat) (q : Rec), rs[j]? = some q → bit ((masks ops.toList).getD j 0) i = true → D j = false := fun j q hq hb => by
    cases hDj : D j with
    | false => rfl
    | true =>
      have := closed_bit hT.down hc j q.o i (hrec hq) (fun e he hb => hc j q.o (hrec hq) hDj e he hb) hb
      rw [hD] at this; cases this
  have own : lastH rs 0 D (none, st) = lastH rs 0 (fun j => decide (j < i)) (none, st) →
      ∃ s', f r.o r.fr (putF nb (qm ((masks ops.toList).getD i 0) (gm (masks ops.toList) (lastH rs 0 D (none, st)).1)) (frees rs 0) (lastH rs 0 D (none, st)).2) = some (r.v, s') := fun e => ⟨s', by rw [e]; exact hf⟩
  rcases hok with hnil | hok
  · -- no heavy ones at all
    have none_ : ∀ (j : Nat) (q : Rec), rs[j]? = some q → q.hs ≠ none → False := fun j q hq hne => by
      cases hqs : q.hs with
      | none => exact hne hqs
      | some s =>
        have := heavies_get (masks ops.toList) rs 0 j q s hq hqs
        rw [hnil] at this; simp at this
    exact own (lastH_congr rs 0 _ _ _ (fun j q hq hne => (none_ j q hq hne).elim))
  have hk := okRecs_get rs 0 i r hok hr
  simp only [Nat.zero_add, okRec, hlight, hnf, cond_false] at hk
  cases hpu : isPure E r.o with
  | true => exact ⟨_, hpure _ _ _ _ hf hpu _⟩
  | false =>
  simp only [hpu, cond_false] at hk
  generalize hHe : heavies rs (masks ops.toList) 0 = H at hk
  have hkN : (bif skipN H i ((masks ops.toList).getD i 0) then true else reEv f r (putF nb (qm ((masks ops.toList).getD i 0) 0) (frees rs 0) st)) = true := by
    cases hx : (bif skipN H i ((masks ops.toList).getD i 0) then true else reEv f r (putF nb (qm ((masks ops.toList).getD i 0) 0) (frees rs 0) st))
    · rw [hx] at hk; simp at hk
    · rfl
  rw [hkN, cond_true] at hk
  have inH : ∀ (j : Nat) (q : Rec) (s : ASt), rs[j]? = some q → q.hs = some s → (⟨j, (masks ops.toList).getD j 0, s⟩ : Hv) ∈ H := fun j q s hq hqs => by
    have := heavies_get (masks ops.toList) rs 0 j q s hq hqs
    rw [hHe] at this; simpa using this
  have ofH : ∀ g, g ∈ H → ∃ (q : Rec), rs[g.i]? = some q ∧ q.hs = some g.s := fun g hg => by
    rw [← hHe] at hg
    obtain ⟨j, q, h1, h2, h3⟩ := heavies_mem _ rs 0 g hg
    have : g.i = j := by omega
    exact ⟨q, by rw [this]; exact h1, h2⟩
  rcases last_cases rs D (none, st) with ⟨hno, hlast⟩ | ⟨j, q, s, hq, hqs, hDj, hmax, hlast⟩
  · -- none of the heavy ones is done
    rw [hlast]
    cases hsk : skipN H i ((masks ops.toList).getD i 0)
    · rw [hsk, cond_false] at hkN
      exact reEv_ok hkN
    · simp only [skipN] at hsk
      cases hall : H.all (fun h => Bool.not (Nat.blt h.i i))
      · rw [hall, cond_false] at hsk
        obtain ⟨g, hg, hb⟩ := List.any_eq_true.1 hsk
        obtain ⟨q, hq, hqs⟩ := ofH g hg
        have h1 := hbef g.i hb
        have h2 := hno g.i q hq (by rw [hqs]; simp)
        rw [h1] at h2; cases h2
      · -- the run itself had none before
        have : lastH rs 0 (fun j => decide (j < i)) (none, st) = (none, st) := lastH_none rs 0 _ _ (fun j q hq hne => by
          cases hqs : q.hs with
          | none => exact absurd hqs hne
          | some s =>
            have := List.all_eq_true.1 hall _ (inH j q s hq hqs)
            simp only [Bool.not_eq_true'] at this
            have := blt_false this
            simpa using this)
        have := own (by rw [hlast, this])
        rwa [hlast] at this
  · rw [hlast]
    have hg := inH j q s hq hqs
    have hkS := List.all_eq_true.1 hk _ hg
    cases hsk : skipS H i ((masks ops.toList).getD i 0) ⟨j, (masks ops.toList).getD j 0, s⟩
    · simp only [hsk, cond_false] at hkS
      exact reEv_ok hkS
    · simp only [skipS] at hsk
      cases hb1 : bit ((masks ops.toList).getD j 0) i
      · rw [hb1, cond_false] at hsk
        cases hb2 : H.any (fun h => bif Nat.blt j h.i then bit ((masks ops.toList).getD i 0) h.i else false)
        · rw [hb2, cond_false] at hsk
          cases hb3 : Nat.blt j i
          · rw [hb3] at hsk; simp at hsk
          · rw [hb3, cond_true] at hsk
            have hji : j < i := by simpa [Nat.blt_eq] using hb3
            have : lastH rs 0 (fun j => decide (j < i)) (none, st) = (some (0 + j), s) := lastH_at rs 0 _ _ j q s hq hqs (by simpa using hji) (fun j' q' hq' hlt hne => by
              cases hqs' : q'.hs with
              | none => exact absurd hqs' hne
              | some s' =>
                have h1 := List.all_eq_true.1 hsk _ (inH j' q' s' hq' hqs')
                have hb : Nat.blt j j' = true := by rw [Nat.blt_eq]; exact hlt
                simp only [hb, cond_true, Bool.not_eq_true'] at h1
                have := blt_false h1
                simpa using this)
            rw [Nat.zero_add] at this
            have := own (by rw [hlast, this])
            rwa [hlast] at this
        · obtain ⟨g, hg, hb⟩ := List.any_eq_true.1 hb2
          cases hb4 : Nat.blt j g.i
          · rw [hb4] at hb; simp at hb
          · rw [hb4, cond_true] at hb
            obtain ⟨q', hq', hqs'⟩ := ofH g hg
            have hlt : j < g.i := by simpa [Nat.blt_eq] using hb4
            have h1 := hbef g.i hb
            have h2 := hmax g.i q' hq' hlt (by rw [hqs']; simp)
            rw [h1] at h2; cases h2
      · have := haft j q hq hb1
        rw [hDj] at this; cases this
end
end
end Go.Ax
