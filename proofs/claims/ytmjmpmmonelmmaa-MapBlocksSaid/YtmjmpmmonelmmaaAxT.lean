/-
  OWN WORK, TOLD ONCE FOR ALL TEXTS YtmjmpmmonelmmaaAxA TO YtmjmpmmonelmmaaAxU: an abstract machine for the program's text that the kernel can run, and the proof that it is sound: what it answers is what the program answers. No condition.
-/
import Derived.Test.YtmjmpmmonelmmaaAxS
namespace Go.Ax
noncomputable section
open Go.RowKit Go.Region

section
variable {P : Program} {E : Env} {B : Prot} {w0 : World}

theorem getD_put {listed : Array Bool} {i j : Nat} (h : i < listed.size) : (listed.setIfInBounds i true).getD j false = (decide (j = i) || listed.getD j false) := by
  by_cases e : j = i
  · subst e; simp [Array.getD_eq_getD_getElem?, h]
  · simp only [Array.getD_eq_getD_getElem?, Array.getElem?_setIfInBounds_ne (Ne.symm e), e, decide_false, Bool.false_or]

/-- what is set aside where some are done -/
def rsD (B : Prot) (nb n : Nat) (D : Nat → Bool) (i : Nat) : Prop := B.rs i ∨ ∃ p, p < n ∧ i = nb + p ∧ D p = false

/-- the objects made on the side that the last heavy operation does not know -/
def qD (D : Nat → Bool) (g : Nat) : Nat → Bool := fun p => D p && !bit g p

theorem SR.reserve {ι : Ren} {st : ASt} {w : World} (h : SR B w0 ι st w) (n : Nat) (D : Nat → Bool) : SR ⟨B.ro, B.ex, rsD B st.next n D⟩ w0 ι { h := st.h, next := st.next + n } w := by
  have hn : ∀ i, st.next ≤ i → ι i = none := fun i hi => by
    cases e : ι i with
    | none => rfl
    | some L => have := h.dom i L e; omega
  refine ⟨h.below, h.base, h.obj, h.own, fun i L hL => Nat.lt_of_lt_of_le (h.dom i L hL) (Nat.le_add_right _ _), fun i a ha => Nat.lt_of_lt_of_le (h.hdom i a ha) (Nat.le_add_right _ _), h.ro, ?_, h.glob⟩
  rintro i (hi | ⟨p, hp, rfl, _⟩)
  · exact ⟨Nat.lt_of_lt_of_le (h.res i hi).1 (Nat.le_add_right _ _), (h.res i hi).2⟩
  · exact ⟨by show st.next + p < st.next + n; omega, hn _ (by omega)⟩

theorem land_bit {a b p : Nat} (h : Nat.land a b = a) (hp : bit a p = true) : bit b p = true := by
  unfold bit at *
  have h2 : (a &&& b).testBit p = true := by
    show (Nat.land a b).testBit p = true
    rw [h]; exact hp
  rw [Nat.testBit_and] at h2
  simp only [Bool.and_eq_true] at h2
  exact h2.2

theorem draw_any (hE : E.Ok P) {call round : CallT} (hc : CallsOK P call) (hr : RoundsOK P round) {ops : Array Oper} {fr : AFr} {nb : Nat} {st : ASt} {rs : List Rec} {fr' : AFr} {g : Nat} {st' : ASt} (hT : TextOK E ops)
    (hR : RunOK E (stepV E call round ops.toList) (fun fr o => wantedA ops.toList fr o) nb (masks ops.toList) ops.toList fr st rs fr' g st')
    (hok : heavies rs (masks ops.toList) 0 = [] ∨ okRecs E (stepV E call round ops.toList) nb (frees rs 0) (heavies rs (masks ops.toList) 0) st (masks ops.toList) rs 0 = true)
    (hslot : okSlots nb (frees rs 0) (heavies rs (masks ops.toList) 0) = true) (hslot0 : ∀ p, st.h.get (nb + p) = none) (hrsB : ∀ i, B.rs i → i < nb)
    {ι0 : Ren} {rl : Option Nat} {Q : Exit → Act → World → Prop} (hQ : ∀ ι a w, ι0.le ι → SR B w0 ι (putF nb (fun p => !bit g p) (frees rs 0) st') w → FRA ι fr' a → Q .normal a w) :
    ∀ (fuel : Nat) (listed : Array Bool) (ι : Ren) (a : Act) (w : World) (frD : AFr), listed.size = ops.size → listed.toList.count false ≤ fuel → Closed ops (fun j => listed.getD j false) →
      ι0.le ι → FRA ι frD a → frD.n = fr.n → frD.defs = fr.defs → (∀ t, (frD.m.get t).getD undefA = val rs 0 (fun j => listed.getD j false) (base fr) t) →
      SR ⟨B.ro, B.ex, rsD B nb ops.size (fun j => listed.getD j false)⟩ w0 ι
        (putF nb (qD (fun j => listed.getD j false) (gm (masks ops.toList) (lastH rs 0 (fun j => listed.getD j false) (none, st)).1)) (frees rs 0) (lastH rs 0 (fun j => listed.getD j false) (none, st)).2) w → wpAnyIn (FF rl) 0 P .any ops Q fuel listed a w := by
  have hlen : rs.length = ops.size := by have := hR.len; simpa using this
  have hin : ∀ {j : Nat} {r : Rec}, rs[j]? = some r → j < ops.size := fun {j r} h => by have := (List.getElem?_eq_some_iff.1 h).1; omega
  -- at the end
  have fin : ∀ (listed : Array Bool) (ι : Ren) (a : Act) (w : World) (frD : AFr), listed.size = ops.size → ready .any ops listed = [] →
      ι0.le ι → FRA ι frD a → frD.n = fr.n → frD.defs = fr.defs → (∀ t, (frD.m.get t).getD undefA = val rs 0 (fun j => listed.getD j false) (base fr) t) →
      SR ⟨B.ro, B.ex, rsD B nb ops.size (fun j => listed.getD j false)⟩ w0 ι
        (putF nb (qD (fun j => listed.getD j false) (gm (masks ops.toList) (lastH rs 0 (fun j => listed.getD j false) (none, st)).1)) (frees rs 0) (lastH rs 0 (fun j => listed.getD j false) (none, st)).2) w → Q .normal a w := by
    intro listed ι a w frD hsz hnil hle hfr hn hd hv hsr
    have hall : ∀ j, j < ops.size → listed.getD j false = true := by
      intro j
      induction j using Nat.strongRecOn with
      | ind j ih =>
        intro hj
        cases hlj : listed.getD j false with
        | true => rfl
        | false =>
          have hm : j ∈ ready .any ops listed := by
            rw [mem_ready]
            refine ⟨?_, ops[j]'hj, by simp [hj], fun e he hb => ih e.on (hT.down j _ (by simp [hj]) e he hb) ?_⟩
            · have hj' : j < listed.size := by omega
              simp only [Array.getD_eq_getD_getElem?, Array.getElem?_eq_getElem hj', Option.getD_some] at hlj ⊢
              exact hlj
            · have := hT.down j _ (by simp [hj]) e he hb; omega
          rw [hnil] at hm; simp at hm
    obtain ⟨f1, f2, f3⟩ := hR.fin
    have hlast : lastH rs 0 (fun j => listed.getD j false) (none, st) = lastH rs 0 (fun _ => true) (none, st) := lastH_congr rs 0 _ _ _ (fun j r h _ => by have := hall j (hin h); simpa using this)
    refine hQ ι a w hle ?_ ⟨⟨?_, fun t => ?_⟩, ?_⟩
    · rw [hlast, ← hR.fins.1, ← hR.fins.2] at hsr
      have h2 : SR B w0 ι _ w := hsr.lessrs (rs := B.rs) (fun i hi => .inl hi)
      refine h2.congr (fun j => ?_) (by rw [putF_next, putF_next])
      rw [putF_h, putF_h, withF_get, withF_get, pick_congr j (fun p a hm => ?_)]
      obtain ⟨r, h3, _⟩ := frees0.1 hm
      simp only [qD, hall p (hin h3), Bool.true_and]
    · rw [f1, ← hn]; exact hfr.hf.1
    · rw [f3, ← val_congr rs 0 (fun j => listed.getD j false) _ (base fr) (base fr) rfl (fun j r h _ => by have := hall j (hin h); simpa using this), ← hv]
      exact hfr.hf.2 t
    · rw [f2, ← hd]; exact hfr.hd
  intro fuel
  induction fuel with
  | zero =>
    intro listed ι a w frD hsz hcount hcl hle hfr hn hd hv hsr
    have hnil : ready .any ops listed = [] := by
      refine List.eq_nil_iff_forall_not_mem.2 fun j hj => ?_
      have h1 := (mem_ready.1 hj).1
      have hj' : j < listed.size := by
        by_cases hlt : j < listed.size
        · exact hlt
        · simp [Array.getD_eq_getD_getElem?, hlt] at h1
      have h2 : listed.toList[j]? = some false := by
        simp only [Array.getD_eq_getD_getElem?, Array.getElem?_eq_getElem hj', Option.getD_some] at h1
        simp [hj', h1]
      have h3 := List.count_pos_iff.2 (List.mem_of_getElem? h2)
      omega
    exact ⟨hnil, fin listed ι a w frD hsz hnil hle hfr hn hd hv hsr⟩
  | succ fuel ih =>
    intro listed ι a w frD hsz hcount hcl hle hfr hn hd hv hsr
    refine ⟨fun hnil => fin listed ι a w frD hsz hnil hle hfr hn hd hv hsr, fun i hi => ?_⟩
    obtain ⟨hDi', o, ho, hready⟩ := mem_ready.1 hi
    have hisz : i < ops.size := (Array.getElem?_eq_some_iff.1 ho).1
    have hil : i < listed.size := by omega
    have hDi : listed.getD i false = false := by
      simp only [Array.getD_eq_getD_getElem?, Array.getElem?_eq_getElem hil, Option.getD_some] at hDi' ⊢
      exact hDi'
    have hri : rs[i]? = some (rs[i]'(by omega)) := by simp [hlen, hisz]
    generalize rs[i]'(by omega) = r at hri
    obtain ⟨ho', hrn, ⟨fr1, hput⟩, hrfr, hcase⟩ := hR.at_ i r hri
    have hro : r.o = o := by
      have : ops[i]? = some r.o := by simpa using ho'
      rw [ho] at this; cases this; rfl
    rw [hro] at hput
    have hrec : ∀ {j : Nat} {q : Rec}, rs[j]? = some q → ops[j]? = some q.o := fun {j q} hq => by have := (hR.at_ j q hq).1; simpa using this
    have hbef : ∀ j, bit ((masks ops.toList).getD i 0) j = true → listed.getD j false = true := fun j hj => closed_bit (D := fun j => listed.getD j false) hT.down hcl i o j ho hready hj
    have haft : ∀ (j : Nat) (q : Rec), rs[j]? = some q → bit ((masks ops.toList).getD j 0) i = true → listed.getD j false = false := fun j q hq hb => by
      cases hDj : listed.getD j false with
      | false => rfl
      | true =>
        have := closed_bit (D := fun j => listed.getD j false) hT.down hcl j q.o i (hrec hq) (fun e he hb => hcl j q.o (hrec hq) hDj e he hb) hb
        simp only [hDi] at this; cases this
    -- the operands are what they were
    have hagree : AgreeOn (looks ops.toList o) r.fr frD := fun t ht => by
      rw [hrfr, hv]
      refine val_congr rs 0 _ _ _ _ rfl fun j q hq hd => ?_
      simp only [Nat.zero_add]
      by_cases e : j = i
      · subst e; simp [hDi]
      · obtain ⟨t1, t2⟩ := hT.tmp i j o q.o t ho (hrec hq) hd (.inl ht)
        by_cases hlt : j < i
        · simp [hlt, hbef j (t1 hlt)]
        · have := haft j q hq (t2 (by omega)); simp [hlt, this]
    have hcong : ∀ s, stepV E call round ops.toList o frD s = stepV E call round ops.toList o r.fr s := fun s => (stepV_congr hagree).symm
    have hwd : wantedA ops.toList frD o = wantedA ops.toList r.fr o := (wantedA_congr hagree).symm
    obtain ⟨frD', hputD⟩ := put_some (fr := frD) (v := r.v) hput (by rw [hn, hrn])
    obtain ⟨p1, p2, p3⟩ := put_look hputD
    -- what holds behind the step, but for the memory
    have count1 : (listed.setIfInBounds i true).toList.count false ≤ fuel := by
      have e : (listed.setIfInBounds i true).toList = listed.toList.set i true := by simp
      rw [e, List.count_set (by simpa using hil)]
      have h2 : listed.toList[i]'(by simpa using hil) = false := by
        simp only [Array.getD_eq_getD_getElem?, Array.getElem?_eq_getElem hil, Option.getD_some] at hDi
        simpa using hDi
      rw [h2]
      simp
      have e2 : Array.count false listed = listed.toList.count false := by simp
      omega
    have closed1 : Closed ops (fun j => (listed.setIfInBounds i true).getD j false) := by
      intro j p hp hDj e he hb
      simp only [getD_put hil] at hDj ⊢
      by_cases e1 : j = i
      · subst e1
        rw [ho] at hp; cases hp
        simp [hready e he hb]
      · simp only [e1, decide_false, Bool.false_or] at hDj
        simp [hcl j p hp hDj e he hb]
    have val1 : ∀ t, (frD'.m.get t).getD undefA = val rs 0 (fun j => (listed.setIfInBounds i true).getD j false) (base fr) t := fun t => by
      rw [p1]
      by_cases e : o.dst = some t
      · simp only [e, if_true]
        refine (val_at rs 0 _ _ i r hri (by rw [hro]; exact e) (by rw [Nat.zero_add, getD_put hil]; simp) (fun j q hq hlt hd => ?_)).symm
        rw [Nat.zero_add, getD_put hil]
        obtain ⟨t1, t2⟩ := hT.tmp i j o q.o t ho (hrec hq) hd (.inr e)
        have h1 := haft j q hq (t2 hlt)
        have h2 : ¬ j = i := by omega
        simp [h1, h2]
      · simp only [e, if_false]
        rw [hv]
        refine val_congr rs 0 _ _ _ _ rfl fun j q hq hd => ?_
        rw [Nat.zero_add, getD_put hil]
        by_cases e1 : j = i
        · subst e1; rw [hri] at hq; cases hq; rw [hro] at hd; exact absurd hd e
        · simp [e1]
    have less1 : ∀ x, rsD B nb ops.size (fun j => (listed.setIfInBounds i true).getD j false) x → rsD B nb ops.size (fun j => listed.getD j false) x ∧ (B.rs x ∨ x ≠ nb + i) := by
      rintro x (hx | ⟨p, hp, rfl, hDp⟩)
      · exact ⟨.inl hx, .inl hx⟩
      · simp only [getD_put hil] at hDp
        by_cases e : p = i
        · subst e; simp at hDp
        · simp only [e, decide_false, Bool.false_or] at hDp
          exact ⟨.inr ⟨p, hp, rfl, hDp⟩, .inr (by omega)⟩
    have next1 : ∀ ι' a' w', ι.le ι' → FRA ι' frD' a' → SR ⟨B.ro, B.ex, rsD B nb ops.size (fun j => (listed.setIfInBounds i true).getD j false)⟩ w0 ι'
        (putF nb (qD (fun j => (listed.setIfInBounds i true).getD j false) (gm (masks ops.toList) (lastH rs 0 (fun j => (listed.setIfInBounds i true).getD j false) (none, st)).1)) (frees rs 0)
          (lastH rs 0 (fun j => (listed.setIfInBounds i true).getD j false) (none, st)).2) w' → wpAnyIn (FF rl) 0 P .any ops Q fuel (listed.setIfInBounds i true) a' w' :=
      fun ι' a' w' h1 h2 h3 => ih (listed.setIfInBounds i true) ι' a' w' frD' (by simpa using hsz) count1 closed1 (Ren.le_trans hle h1) h2 (by rw [p2, hn]) (by rw [p3, hd]) val1 h3
    -- the masks of the last heavy one
    have ofg : ∀ p, bit (gm (masks ops.toList) (lastH rs 0 (fun j => listed.getD j false) (none, st)).1) p = true → listed.getD p false = true := fun p hp => by
      rcases last_cases rs (fun j => listed.getD j false) (none, st) with ⟨_, hlast⟩ | ⟨j, q, s, hq, hqs, hDj, _, hlast⟩
      · rw [hlast] at hp; simp only [gm, bit_zero] at hp; cases hp
      · rw [hlast] at hp
        simp only [gm] at hp
        exact closed_bit (D := fun j => listed.getD j false) hT.down hcl j q.o p (hrec hq) (fun e he hb => hcl j q.o (hrec hq) hDj e he hb) hp
    have slot : ∀ p a, (p, a) ∈ frees rs 0 → bit (gm (masks ops.toList) (lastH rs 0 (fun j => listed.getD j false) (none, st)).1) p = false →
        (lastH rs 0 (fun j => listed.getD j false) (none, st)).2.h.get (nb + p) = none := fun p a hp hb => by
      rcases last_cases rs (fun j => listed.getD j false) (none, st) with ⟨_, hlast⟩ | ⟨j, q, s, hq, hqs, hDj, _, hlast⟩
      · rw [hlast]; exact hslot0 p
      · rw [hlast] at hb ⊢
        have h1 := heavies_get (masks ops.toList) rs 0 j q s hq hqs
        rw [Nat.zero_add] at h1
        have h2 := List.all_eq_true.1 (List.all_eq_true.1 hslot _ h1) _ hp
        simp only [gm] at hb
        simp only [hb, cond_false] at h2
        cases hx : s.h.get (nb + p) with
        | none => rfl
        | some y => rw [hx] at h2; simp [isNone] at h2
    generalize hfs : frees rs 0 = fs at *
    have ffun : ∀ p a b, (p, a) ∈ fs → (p, b) ∈ fs → a = b := fun p a b h1 h2 => by subst hfs; exact frees_fun p a b h1 h2
    have fmem : ∀ p a, (p, a) ∈ fs → ∃ r, rs[p]? = some r ∧ r.ob = some a := fun p a h1 => by subst hfs; exact frees0.1 h1
    have fown : ∀ p a, (p, a) ∈ fs → a.own = true := fun p a h1 => by
      obtain ⟨q, h2, h3⟩ := fmem p a h1
      rcases (hR.at_ p q h2).2.2.2.2 with ⟨_, _, ⟨_, x, h4, h5, _⟩ | ⟨_, h5, _⟩⟩ | ⟨_, h5, _⟩
      · rw [h3] at h5; cases h5; exact aFree_own h4
      · rw [h3] at h5; cases h5
      · rw [h3] at h5; cases h5
    unfold wpOpIn
    rw [ho]
    -- a step that makes no object on the side
    have plain : ∀ s1, r.ob = none → stepV E call round ops.toList o frD (putF nb (qm ((masks ops.toList).getD i 0) (gm (masks ops.toList) (lastH rs 0 (fun j => listed.getD j false) (none, st)).1)) fs (lastH rs 0 (fun j => listed.getD j false) (none, st)).2) = some (r.v, s1) →
        ((r.hs = none ∧ s1 = putF nb (qm ((masks ops.toList).getD i 0) (gm (masks ops.toList) (lastH rs 0 (fun j => listed.getD j false) (none, st)).1)) fs (lastH rs 0 (fun j => listed.getD j false) (none, st)).2 ∧
            lastH rs 0 (fun j => (listed.setIfInBounds i true).getD j false) (none, st) = lastH rs 0 (fun j => listed.getD j false) (none, st)) ∨
         (lastH rs 0 (fun j => (listed.setIfInBounds i true).getD j false) (none, st) = (some i, s1) ∧
            ∀ p, bit (gm (masks ops.toList) (lastH rs 0 (fun j => listed.getD j false) (none, st)).1) p = true → bit ((masks ops.toList).getD i 0) p = true)) →
        (if wanted o (yielded ops a.tmps) then o.wpIn (FF rl) 0 P a w (wpAnyIn (FF rl) 0 P .any ops Q fuel (listed.setIfInBounds i true)) Q
          else (∀ f, o.about P w a.eval = some f → (FF rl).fn f) ∧ wpAnyIn (FF rl) 0 P .any ops Q fuel (listed.setIfInBounds i true) (a.put o.dst undef) w) := by
      intro s1 hob hstepV hkind
      generalize hmi : (masks ops.toList).getD i 0 = mi at *
      generalize hcc : lastH rs 0 (fun j => listed.getD j false) (none, st) = c at *
      generalize hgg : gm (masks ops.toList) c.1 = gD at *
      let X : Nat → Bool := fun j => fs.any fun x => Nat.beq (nb + x.1) j && (listed.getD x.1 false && (!bit gD x.1 && !bit mi x.1))
      have Xmem : ∀ j, X j = true ↔ ∃ p a, (p, a) ∈ fs ∧ nb + p = j ∧ listed.getD p false = true ∧ bit gD p = false ∧ bit mi p = false := fun j => by
        constructor
        · intro h
          obtain ⟨x, h1, h2⟩ := List.any_eq_true.1 h
          simp only [Bool.and_eq_true, Bool.not_eq_true'] at h2
          exact ⟨x.1, x.2, h1, nbeq h2.1, h2.2.1, h2.2.2.1, h2.2.2.2⟩
        · rintro ⟨p, a, h1, rfl, h2, h3, h4⟩
          exact List.any_eq_true.2 ⟨(p, a), h1, by simp [h2, h3, h4]⟩
      have qD_true : ∀ (L : Array Bool) (g p : Nat), qD (fun j => L.getD j false) g p = true ↔ L.getD p false = true ∧ bit g p = false := fun L g p => by simp [qD]
      have hX : ∀ j, X j = true → ∃ a, (putF nb (qD (fun j => listed.getD j false) gD) fs c.2).h.get j = some a ∧ a.own = true := fun j hj => by
        obtain ⟨p, a, h1, rfl, h2, h3, h4⟩ := (Xmem j).1 hj
        refine ⟨a, ?_, fown p a h1⟩
        rw [putF_h, withF_get, pick_mem ffun h1 ((qD_true _ _ _).2 ⟨h2, h3⟩)]
      have hg : ∀ j, (putF nb (qm mi gD) fs c.2).h.get j = if X j then none else (putF nb (qD (fun j => listed.getD j false) gD) fs c.2).h.get j := fun j => by
        rw [putF_h, putF_h, withF_get, withF_get]
        cases hx : X j with
        | true =>
          obtain ⟨p, a, h1, rfl, h2, h3, h4⟩ := (Xmem j).1 hx
          cases hp : pick nb (qm mi gD) fs (nb + p) with
          | some b =>
            obtain ⟨p', q1, q2, q3⟩ := pick_some hp
            have : p' = p := by omega
            subst this
            have := (qm_true.1 q2).1
            rw [h4] at this; cases this
          | none => simpa using slot p a h1 h3
        | false =>
          simp only [Bool.false_eq_true, if_false]
          cases hp : pick nb (qm mi gD) fs j with
          | some b =>
            obtain ⟨p, q1, q2, rfl⟩ := pick_some hp
            obtain ⟨q3, q4⟩ := qm_true.1 q2
            rw [pick_mem ffun q1 ((qD_true _ _ _).2 ⟨hbef p q3, q4⟩)]
          | none =>
            cases hp' : pick nb (qD (fun j => listed.getD j false) gD) fs j with
            | none => rfl
            | some b =>
              obtain ⟨p, q1, q2, rfl⟩ := pick_some hp'
              obtain ⟨q3, q4⟩ := (qD_true _ _ _).1 q2
              cases hb : bit mi p with
              | true => exact absurd rfl (pick_none hp p b q1 (qm_true.2 ⟨hb, q4⟩))
              | false =>
                have := (Xmem (nb + p)).2 ⟨p, b, q1, rfl, q3, q4, hb⟩
                rw [hx] at this; cases this
      have hsplit := hsr.split (F := putF nb (qm mi gD) fs c.2) X hX (by rw [putF_next, putF_next]) hg
      have hst : step E call round ops.toList o frD (putF nb (qm mi gD) fs c.2) = some (frD', s1) := by simp only [step, hstepV, hputD]
      have noti : ∀ p a, (p, a) ∈ fs → p ≠ i := fun p a h1 e => by
        subst e
        obtain ⟨q, h2, h3⟩ := fmem p a h1
        rw [hri] at h2; cases h2; rw [hob] at h3; cases h3
      refine step_ok (ro := rl) (Q := Q) hE hsplit hfr (hc _ _) (hr _ _) (ops := ops) hst (fun ι' a' w' hle' hfr' hsr' => next1 ι' a' w' hle' hfr' ?_)
      rcases hkind with ⟨hh, rfl, hl1⟩ | ⟨hl1, hsub⟩
      · have hm := hsr.merge (T' := putF nb (qD (fun j => listed.getD j false) gD) fs c.2) X hX hsr' hle' (by rw [putF_next, putF_next]) (fun j => by
          rw [hg]; cases X j <;> simp)
        rw [hl1, hgg]
        refine ((hm.lessrs (rs := rsD B nb ops.size (fun j => (listed.setIfInBounds i true).getD j false)) (fun y hy => (less1 y hy).1))).congr (fun j => ?_) (by rw [putF_next, putF_next])
        rw [putF_h, putF_h, withF_get, withF_get, pick_congr j (fun p a h1 => ?_)]
        simp only [qD, getD_put hil, noti p a h1, decide_false, Bool.false_or]
      · rw [hl1]
        simp only [gm, hmi]
        refine (hsr.merge (T' := putF nb (qD (fun j => (listed.setIfInBounds i true).getD j false) mi) fs s1) X hX hsr' hle' (by rw [putF_next]) (fun j => ?_)).lessrs (fun y hy => (less1 y hy).1)
        rw [putF_h, withF_get]
        cases hx : X j with
        | true =>
          obtain ⟨p, a, h1, rfl, h2, h3, h4⟩ := (Xmem j).1 hx
          rw [pick_mem ffun h1 ((qD_true _ _ _).2 ⟨by rw [getD_put hil]; simp [h2], h4⟩)]
          simp only [if_true]
          rw [putF_h, withF_get, pick_mem ffun h1 ((qD_true _ _ _).2 ⟨h2, h3⟩)]
        | false =>
          simp only [Bool.false_eq_true, if_false]
          cases hp : pick nb (qD (fun j => (listed.setIfInBounds i true).getD j false) mi) fs j with
          | none => rfl
          | some b =>
            obtain ⟨p, q1, q2, rfl⟩ := pick_some hp
            obtain ⟨q3, q4⟩ := (qD_true _ _ _).1 q2
            rw [getD_put hil] at q3
            simp only [noti p b q1, decide_false, Bool.false_or] at q3
            have q5 : bit gD p = false := by
              cases hb : bit gD p with
              | false => rfl
              | true => have := hsub p hb; rw [q4] at this; cases this
            have := (Xmem (nb + p)).2 ⟨p, b, q1, rfl, q3, q5, q4⟩
            rw [hx] at this; cases this
    have calm1 : r.hs = none → lastH rs 0 (fun j => (listed.setIfInBounds i true).getD j false) (none, st) = lastH rs 0 (fun j => listed.getD j false) (none, st) := fun hhs => lastH_congr rs 0 _ _ _ fun j q hq hne => by
      simp only [Nat.zero_add]
      rw [getD_put hil]
      by_cases e : j = i
      · subst e; rw [hri] at hq; cases hq; exact absurd hhs hne
      · simp [e]
    rcases hcase with ⟨hfree, hhs, hc2⟩ | ⟨hfree, hob, s', hf, hhs, hland⟩
    · rcases hc2 with ⟨hw, x, hx, hrob, hrv⟩ | ⟨hw, hrob, hrv⟩
      · -- an object is made
        rw [hro] at hw hx
        have hgi : bit (gm (masks ops.toList) (lastH rs 0 (fun j => listed.getD j false) (none, st)).1) i = false := by
          cases hb : bit (gm (masks ops.toList) (lastH rs 0 (fun j => listed.getD j false) (none, st)).1) i with
          | false => rfl
          | true => have := ofg i hb; rw [hDi] at this; cases this
        have hxa : aFree E o frD = some x := by rw [← aFree_congr (fun t ht => hagree t (List.mem_append_left _ ht))]; exact hx
        have hmem : (i, x.1) ∈ fs := by rw [← hfs]; exact frees0.2 ⟨r, hri, hrob⟩
        have hres := hsr.res (nb + i) (.inr ⟨i, hisz, rfl, hDi⟩)
        refine free_step_ok (ro := rl) (Q := Q) hE hsr hfr (k := nb + i) (x := x) (rs := rsD B nb ops.size (fun j => (listed.setIfInBounds i true).getD j false)) (by rw [hwd]; exact hw) (by simp only [guardAny, isFree_guard (hro ▸ hfree)]) hxa (by rw [← hrv]; exact hputD) hres.1 hres.2
          (fun y hy => ⟨(less1 y hy).1, ?_⟩) (fun ι' a' w' hle' hfr' hsr' => next1 ι' a' w' hle' hfr' ?_)
        · rcases hy with hy | ⟨p, hp, rfl, hDp⟩
          · have := hrsB _ hy; omega
          · simp only [getD_put hil] at hDp
            intro e
            have : p = i := by omega
            subst this; simp at hDp
        · rw [calm1 hhs]
          refine hsr'.congr (fun j => ?_) (by rw [putF_next]; show _ = (putF _ _ _ _).next; rw [putF_next])
          show _ = (T.set _ _ _ _).get j
          rw [T.get_set, putF_h, putF_h, withF_get, withF_get]
          by_cases e : j = nb + i
          · subst e
            rw [pick_mem ffun hmem (by simp only [qD, getD_put hil, hgi]; simp)]
            simp
          · simp only [e, if_false]
            have hpc : pick nb (qD (fun j => (listed.setIfInBounds i true).getD j false) (gm (masks ops.toList) (lastH rs 0 (fun j => listed.getD j false) (none, st)).1)) fs j =
                pick nb (qD (fun j => listed.getD j false) (gm (masks ops.toList) (lastH rs 0 (fun j => listed.getD j false) (none, st)).1)) fs j := by
              cases h1 : pick nb (qD (fun j => (listed.setIfInBounds i true).getD j false) (gm (masks ops.toList) (lastH rs 0 (fun j => listed.getD j false) (none, st)).1)) fs j with
              | some b =>
                obtain ⟨p, q1, q2, rfl⟩ := pick_some h1
                have hne : p ≠ i := fun h => e (by rw [h])
                simp only [qD, getD_put hil, hne, decide_false, Bool.false_or] at q2
                rw [pick_mem ffun q1 q2]
              | none =>
                cases h2 : pick nb (qD (fun j => listed.getD j false) (gm (masks ops.toList) (lastH rs 0 (fun j => listed.getD j false) (none, st)).1)) fs j with
                | none => rfl
                | some b =>
                  obtain ⟨p, q1, q2, rfl⟩ := pick_some h2
                  have hne : p ≠ i := fun h => e (by rw [h])
                  refine absurd rfl (pick_none h1 p b q1 ?_)
                  simp only [qD, getD_put hil, hne, decide_false, Bool.false_or]
                  exact q2
            rw [hpc]
      · -- it is not wanted
        rw [hro] at hw
        refine plain _ hrob ?_ (.inl ⟨hhs, rfl, calm1 hhs⟩)
        have hgn := isFree_guard (hro ▸ hfree)
        simp only [wantedA, hgn] at hw
        cases hw
    · cases hlt : isLight E o with
      | true =>
        rw [hro, hlt, if_pos rfl] at hhs
        obtain ⟨s1, h1⟩ := light_again (f := stepV E call round ops.toList) (fun o fr st r h hp st' => pureV_any hp h st') hT hR (by rw [hfs]; exact hok) (D := fun j => listed.getD j false) hcl hri hfree hhs hDi (by rw [hro]; exact hready)
        rw [hro, hfs] at h1
        have h2 := lightV_st hlt h1
        simp only at h2
        exact plain s1 hob (by rw [hcong]; exact h1) (.inl ⟨hhs, h2, calm1 hhs⟩)
      | false =>
        rw [hro] at hhs hland hf hfree
        simp only [hlt, Bool.false_eq_true, if_false] at hhs
        have hcalm : isCalm E o = false := by simp [isCalm, hlt, hfree]
        have hother : ∀ (j : Nat) (q : Rec), rs[j]? = some q → q.hs ≠ none → j ≠ i → (j < i → listed.getD j false = true) ∧ (i < j → listed.getD j false = false) := fun j q hq hne hji => by
          have hlq : isCalm E q.o = false := by
            rcases (hR.at_ j q hq).2.2.2.2 with ⟨_, h3, _⟩ | ⟨h2, _, _, _, h3, _⟩
            · exact absurd h3 hne
            · cases hl : isLight E q.o with
              | false => simp [isCalm, hl, h2]
              | true => simp [hl] at h3; exact absurd h3 hne
          obtain ⟨t1, t2⟩ := hT.heavy i j o q.o ho (hrec hq) hcalm hlq
          exact ⟨fun h => hbef j (t1 h), fun h => haft j q hq (t2 h)⟩
        have hsame : lastH rs 0 (fun j => listed.getD j false) (none, st) = lastH rs 0 (fun j => decide (j < i)) (none, st) := lastH_congr rs 0 _ _ _ fun j q hq hne => by
          simp only [Nat.zero_add]
          by_cases e : j = i
          · subst e; simp [hDi]
          · obtain ⟨t1, t2⟩ := hother j q hq hne e
            by_cases hlt : j < i
            · simp [hlt, t1 hlt]
            · simp [hlt, t2 (by omega)]
        rw [← hsame] at hf
        rw [← hsame] at hland
        refine plain s' hob (by rw [hcong]; exact hf) (.inr ⟨?_, fun p hp => land_bit (hland hlt) hp⟩)
        have := lastH_at rs 0 (fun j => (listed.setIfInBounds i true).getD j false) (none, st) i r s' hri hhs (by rw [Nat.zero_add, getD_put hil]; simp) (fun j q hq hlt' hne => by
          rw [Nat.zero_add, getD_put hil, (hother j q hq hne (by omega)).2 hlt']
          have : ¬ j = i := by omega
          simp [this])
        rw [this, Nat.zero_add]

theorem drawA_ok (hE : E.Ok P) : DrawOK P E (drawA E) := by
  intro call round hc hr B w0 ops fr st fr' st' h ι w a rl id hsr hfr
  simp only [drawA] at h
  cases hS : okS E ops.toList
  · simp [hS] at h
  simp only [hS, cond_true, force_eq] at h
  split at h
  · simp at h
  rename_i rs fr1 g st1 hrun
  have hT := okS_ok hS
  have hR := run_ok (fun o fr st r h hl => lightV_st hl h) (mask_lt hT.down) hrun
  have hboth : (fr1 = fr' ∧ putF st.next (fun p => !bit g p) (frees rs 0) st1 = st') ∧ okSlots st.next (frees rs 0) (heavies rs (masks ops.toList) 0) = true ∧
      (heavies rs (masks ops.toList) 0 = [] ∨ okRecs E (stepV E call round ops.toList) st.next (frees rs 0) (heavies rs (masks ops.toList) 0) { h := st.h, next := st.next + ops.toList.length } (masks ops.toList) rs 0 = true) := by
    have slots0 : ∀ H, okSlots st.next [] H = true := fun H => by simp [okSlots]
    split at h
    · rename_i hfn
      rw [hfn]
      split at h
      · rename_i hnil
        simp only [Option.some.injEq, Prod.mk.injEq] at h
        exact ⟨h, slots0 _, .inl hnil⟩
      · cases hb : okRecs E (stepV E call round ops.toList) st.next [] (heavies rs (masks ops.toList) 0) { h := st.h, next := st.next + ops.toList.length } (masks ops.toList) rs 0
        · rw [hb] at h; simp at h
        · rw [hb] at h
          simp only [cond_true, Option.some.injEq, Prod.mk.injEq] at h
          exact ⟨h, slots0 _, .inr rfl⟩
    · split at h
      · rename_i hnil
        simp only [Option.some.injEq, Prod.mk.injEq] at h
        exact ⟨h, by rw [hnil]; rfl, .inl hnil⟩
      · cases hs : okSlots st.next (frees rs 0) (heavies rs (masks ops.toList) 0)
        · rw [hs] at h; simp at h
        · rw [hs] at h
          simp only [cond_true] at h
          cases hb : okRecs E (stepV E call round ops.toList) st.next (frees rs 0) (heavies rs (masks ops.toList) 0) { h := st.h, next := st.next + ops.toList.length } (masks ops.toList) rs 0
          · rw [hb] at h; simp at h
          · rw [hb] at h
            simp only [cond_true, Option.some.injEq, Prod.mk.injEq] at h
            exact ⟨h, rfl, .inr rfl⟩
  obtain ⟨⟨rfl, rfl⟩, hslot, hok⟩ := hboth
  refine wpIn_region_any hE.mixed ?_
  have hfalse : ∀ j, (Array.replicate ops.size false).getD j false = false := fun j => by
    by_cases hj : j < ops.size <;> simp [Array.getD_eq_getD_getElem?, hj]
  have hnone : ∀ p, st.h.get (st.next + p) = none := fun p => by
    cases hx : st.h.get (st.next + p) with
    | none => rfl
    | some y => have := hsr.hdom _ y hx; omega
  have hl0 : lastH rs 0 (fun j => (Array.replicate ops.size false).getD j false) (none, ({ h := st.h, next := st.next + ops.toList.length } : ASt)) = (none, { h := st.h, next := st.next + ops.toList.length }) :=
    lastH_none rs 0 _ _ (fun j r _ _ => hfalse _)
  refine draw_any hE hc hr hT hR hok hslot hnone (fun i hi => (hsr.res i hi).1) (ι0 := ι) (fun ι' a' w' h1 h2 h3 => ⟨rfl, ι', h1, h2, h3⟩) ops.size _ ι a _ fr (by simp) (by simp [Array.toList_replicate]) (fun i o _ h => ?_) ι.le_refl hfr rfl rfl (fun t => ?_) ?_
  · simp only [hfalse] at h; cases h
  · rw [val_none rs 0 _ _ (fun j r _ _ => hfalse _)]; rfl
  · rw [hl0]
    refine ((hsr.drawn _).reserve ops.size (fun j => (Array.replicate ops.size false).getD j false)).congr (fun j => ?_) (by rw [putF_next]; simp)
    rw [putF_h, withF_get]
    cases hp : pick st.next (qD (fun j => (Array.replicate ops.size false).getD j false) (gm (masks ops.toList) none)) (frees rs 0) j with
    | none => rfl
    | some b =>
      obtain ⟨p, _, q2, _⟩ := pick_some hp
      simp only [qD, hfalse, Bool.false_and] at q2
      cases q2
end
end
end Go.Ax
