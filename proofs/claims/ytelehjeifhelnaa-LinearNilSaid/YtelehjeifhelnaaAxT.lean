/-
  OWN WORK, TOLD ONCE FOR ALL TEXTS YtelehjeifhelnaaAxA TO YtelehjeifhelnaaAxU: an abstract machine for the program's text that the kernel can run, and the proof that it is sound: what it answers is what the program answers. No condition.
-/
import Derived.Test.YtelehjeifhelnaaAxS
namespace Go.Ax
noncomputable section
open Go.RowKit Go.Region

section
variable {P : Program} {E : Env} {B : Nat → Prop} {w0 : World}

theorem getD_put {listed : Array Bool} {i j : Nat} (h : i < listed.size) : (listed.setIfInBounds i true).getD j false = (decide (j = i) || listed.getD j false) := by
  by_cases e : j = i
  · subst e; simp [Array.getD_eq_getD_getElem?, h]
  · simp only [Array.getD_eq_getD_getElem?, Array.getElem?_setIfInBounds_ne (Ne.symm e), e, decide_false, Bool.false_or]

theorem draw_any (hE : E.Ok P) {call round : CallT} (hc : CallOK P B w0 call) (hr : RoundOK P B w0 round) {ops : Array Oper} {fr : AFr} {st : ASt} {rs : List Rec} {fr' : AFr} {st' : ASt} (hT : TextOK E ops)
    (hR : RunOK E (stepV E call round ops.toList) ops.toList fr st rs fr' st')
    (hok : heavies rs (masks ops.toList) 0 = [] ∨ okRecs (stepV E call round ops.toList) (heavies rs (masks ops.toList) 0) st (masks ops.toList) rs 0 = true)
    {ι0 : Ren} {rl : Option Nat} {Q : Exit → Act → World → Prop} (hQ : ∀ ι a w, ι0.le ι → SR B w0 ι st' w → FRA ι fr' a → Q .normal a w) :
    ∀ (fuel : Nat) (listed : Array Bool) (ι : Ren) (a : Act) (w : World) (frD : AFr), listed.size = ops.size → listed.toList.count false ≤ fuel → Closed ops (fun j => listed.getD j false) →
      ι0.le ι → FRA ι frD a → frD.n = fr.n → frD.defs = fr.defs → (∀ t, (frD.m.get t).getD undefA = val rs 0 (fun j => listed.getD j false) (base fr) t) →
      SR B w0 ι (lastH rs 0 (fun j => listed.getD j false) (none, st)).2 w → wpAnyIn (FF rl) 0 P .any ops Q fuel listed a w := by
  have hlen : rs.length = ops.size := by have := hR.len; simpa using this
  -- at the end
  have fin : ∀ (listed : Array Bool) (ι : Ren) (a : Act) (w : World) (frD : AFr), listed.size = ops.size → ready .any ops listed = [] →
      ι0.le ι → FRA ι frD a → frD.n = fr.n → frD.defs = fr.defs → (∀ t, (frD.m.get t).getD undefA = val rs 0 (fun j => listed.getD j false) (base fr) t) →
      SR B w0 ι (lastH rs 0 (fun j => listed.getD j false) (none, st)).2 w → Q .normal a w := by
    intro listed ι a w frD hsz hnil hle hfr hn hd hv hsr
    have hall : ∀ j, j < ops.size → listed.getD j false = true := by
      intro j
      induction j using Nat.strongRecOn with
      | ind j ih =>
        intro hj
        cases hlj : listed.getD j false with
        | true => rfl
        | false =>
          have hm : j ∈ ready .any ops listed := by
            rw [mem_ready]
            refine ⟨?_, ops[j]'hj, by simp [hj], fun e he hb => ih e.on (hT.down j _ (by simp [hj]) e he hb) ?_⟩
            · have hj' : j < listed.size := by omega
              simp only [Array.getD_eq_getD_getElem?, Array.getElem?_eq_getElem hj', Option.getD_some] at hlj ⊢
              exact hlj
            · have := hT.down j _ (by simp [hj]) e he hb; omega
          rw [hnil] at hm; simp at hm
    obtain ⟨f1, f2, f3⟩ := hR.fin
    have hin : ∀ (j : Nat) (r : Rec), rs[j]? = some r → j < ops.size := fun j r h => by have := (List.getElem?_eq_some_iff.1 h).1; omega
    refine hQ ι a w hle ?_ ⟨⟨?_, fun t => ?_⟩, ?_⟩
    · rw [hR.fins, ← lastH_congr rs 0 (fun j => listed.getD j false) _ _ (fun j r h _ => by have := hall j (hin j r h); simpa using this)]
      exact hsr
    · rw [f1, ← hn]; exact hfr.hf.1
    · rw [f3, ← val_congr rs 0 (fun j => listed.getD j false) _ (base fr) (base fr) rfl (fun j r h _ => by have := hall j (hin j r h); simpa using this), ← hv]
      exact hfr.hf.2 t
    · rw [f2, ← hd]; exact hfr.hd
  intro fuel
  induction fuel with
  | zero =>
    intro listed ι a w frD hsz hcount hcl hle hfr hn hd hv hsr
    have hnil : ready .any ops listed = [] := by
      refine List.eq_nil_iff_forall_not_mem.2 fun j hj => ?_
      have h1 := (mem_ready.1 hj).1
      have hj' : j < listed.size := by
        by_cases hlt : j < listed.size
        · exact hlt
        · simp [Array.getD_eq_getD_getElem?, hlt] at h1
      have h2 : listed.toList[j]? = some false := by
        simp only [Array.getD_eq_getD_getElem?, Array.getElem?_eq_getElem hj', Option.getD_some] at h1
        simp [hj', h1]
      have h3 := List.count_pos_iff.2 (List.mem_of_getElem? h2)
      omega
    exact ⟨hnil, fin listed ι a w frD hsz hnil hle hfr hn hd hv hsr⟩
  | succ fuel ih =>
    intro listed ι a w frD hsz hcount hcl hle hfr hn hd hv hsr
    refine ⟨fun hnil => fin listed ι a w frD hsz hnil hle hfr hn hd hv hsr, fun i hi => ?_⟩
    obtain ⟨hDi', o, ho, hready⟩ := mem_ready.1 hi
    have hisz : i < ops.size := (Array.getElem?_eq_some_iff.1 ho).1
    have hil : i < listed.size := by omega
    have hDi : listed.getD i false = false := by
      simp only [Array.getD_eq_getD_getElem?, Array.getElem?_eq_getElem hil, Option.getD_some] at hDi' ⊢
      exact hDi'
    have hri : rs[i]? = some (rs[i]'(by omega)) := by simp [hlen, hisz]
    generalize rs[i]'(by omega) = r at hri
    obtain ⟨ho', hrn, ⟨fr1, hput⟩, hrfr, s', hf, hhs⟩ := hR.at_ i r hri
    have hro : r.o = o := by
      have : ops[i]? = some r.o := by simpa using ho'
      rw [ho] at this; cases this; rfl
    rw [hro] at hf hhs hput
    have hrec : ∀ {j : Nat} {q : Rec}, rs[j]? = some q → ops[j]? = some q.o := fun {j q} hq => by have := (hR.at_ j q hq).1; simpa using this
    have hbef : ∀ j, bit ((masks ops.toList).getD i 0) j = true → listed.getD j false = true := fun j hj => closed_bit (D := fun j => listed.getD j false) hT.down hcl i o j ho hready hj
    have haft : ∀ (j : Nat) (q : Rec), rs[j]? = some q → bit ((masks ops.toList).getD j 0) i = true → listed.getD j false = false := fun j q hq hb => by
      cases hDj : listed.getD j false with
      | false => rfl
      | true =>
        have := closed_bit (D := fun j => listed.getD j false) hT.down hcl j q.o i (hrec hq) (fun e he hb => hcl j q.o (hrec hq) hDj e he hb) hb
        simp only [hDi] at this; cases this
    -- the operands are what they were
    have hagree : AgreeOn (looks ops.toList o) r.fr frD := fun t ht => by
      rw [hrfr, hv]
      refine val_congr rs 0 _ _ _ _ rfl fun j q hq hd => ?_
      simp only [Nat.zero_add]
      by_cases e : j = i
      · subst e; simp [hDi]
      · obtain ⟨t1, t2⟩ := hT.tmp i j o q.o t ho (hrec hq) hd (.inl ht)
        by_cases hlt : j < i
        · simp [hlt, hbef j (t1 hlt)]
        · have := haft j q hq (t2 (by omega)); simp [hlt, this]
    have hcong : ∀ s, stepV E call round ops.toList o frD s = stepV E call round ops.toList o r.fr s := fun s => (stepV_congr hagree).symm
    -- the answer, and the memory behind it
    have hans : ∃ s1, stepV E call round ops.toList o frD (lastH rs 0 (fun j => listed.getD j false) (none, st)).2 = some (r.v, s1) ∧
        s1 = (lastH rs 0 (fun j => (listed.setIfInBounds i true).getD j false) (none, st)).2 := by
      cases hlt : isLight E o with
      | true =>
        simp only [hlt, if_true] at hhs
        obtain ⟨s1, h1⟩ := light_again hT hR hok (D := fun j => listed.getD j false) hcl hri hhs hDi (by rw [hro]; exact hready)
        rw [hro] at h1
        refine ⟨s1, by rw [hcong]; exact h1, ?_⟩
        have h2 := lightV_st hlt h1
        simp only at h2
        rw [h2]
        congr 1
        refine lastH_congr rs 0 _ _ _ fun j q hq hne => ?_
        simp only [Nat.zero_add]
        rw [getD_put hil]
        by_cases e : j = i
        · subst e; rw [hri] at hq; cases hq; exact absurd hhs hne
        · simp [e]
      | false =>
        simp only [hlt, Bool.false_eq_true, if_false] at hhs
        have hother : ∀ (j : Nat) (q : Rec), rs[j]? = some q → q.hs ≠ none → j ≠ i → (j < i → listed.getD j false = true) ∧ (i < j → listed.getD j false = false) := fun j q hq hne hji => by
          have hlq : isLight E q.o = false := by
            have := (hR.at_ j q hq).2.2.2.2
            obtain ⟨_, _, h3⟩ := this
            cases hl : isLight E q.o with
            | false => rfl
            | true => simp [hl] at h3; exact absurd h3 hne
          obtain ⟨t1, t2⟩ := hT.heavy i j o q.o ho (hrec hq) hlt hlq
          exact ⟨fun h => hbef j (t1 h), fun h => haft j q hq (t2 h)⟩
        have hsame : lastH rs 0 (fun j => listed.getD j false) (none, st) = lastH rs 0 (fun j => decide (j < i)) (none, st) := lastH_congr rs 0 _ _ _ fun j q hq hne => by
          simp only [Nat.zero_add]
          by_cases e : j = i
          · subst e; simp [hDi]
          · obtain ⟨t1, t2⟩ := hother j q hq hne e
            by_cases hlt : j < i
            · simp [hlt, t1 hlt]
            · simp [hlt, t2 (by omega)]
        refine ⟨s', by rw [hcong, hsame]; exact hf, ?_⟩
        have := lastH_at rs 0 (fun j => (listed.setIfInBounds i true).getD j false) (none, st) i r s' hri hhs (by rw [Nat.zero_add, getD_put hil]; simp) (fun j q hq hlt' hne => by
          rw [Nat.zero_add, getD_put hil, (hother j q hq hne (by omega)).2 hlt']
          have : ¬ j = i := by omega
          simp [this])
        rw [this]
    obtain ⟨s1, hstep, hs1⟩ := hans
    obtain ⟨frD', hputD⟩ := put_some (fr := frD) (v := r.v) hput (by rw [hn, hrn])
    obtain ⟨p1, p2, p3⟩ := put_look hputD
    have hst : step E call round ops.toList o frD (lastH rs 0 (fun j => listed.getD j false) (none, st)).2 = some (frD', s1) := by
      simp only [step, hstep, hputD]
    have := step_ok (ro := rl) (Q := Q) hE hsr hfr hc hr (ops := ops) hst (K := wpAnyIn (FF rl) 0 P .any ops Q fuel (listed.setIfInBounds i true)) (fun ι' a' w' hle' hfr' hsr' => ?_)
    · unfold wpOpIn
      rw [ho]
      exact this
    · refine ih (listed.setIfInBounds i true) ι' a' w' frD' (by simpa using hsz) ?_ ?_ (Ren.le_trans hle hle') hfr' (by rw [p2, hn]) (by rw [p3, hd]) (fun t => ?_) (by rw [← hs1]; exact hsr')
      · have e : (listed.setIfInBounds i true).toList = listed.toList.set i true := by simp
        rw [e, List.count_set (by simpa using hil)]
        have h2 : listed.toList[i]'(by simpa using hil) = false := by
          simp only [Array.getD_eq_getD_getElem?, Array.getElem?_eq_getElem hil, Option.getD_some] at hDi
          simpa using hDi
        rw [h2]
        simp
        have e2 : Array.count false listed = listed.toList.count false := by simp
        omega
      · intro j p hp hDj e he hb
        simp only [getD_put hil] at hDj ⊢
        by_cases e1 : j = i
        · subst e1
          rw [ho] at hp; cases hp
          simp [hready e he hb]
        · simp only [e1, decide_false, Bool.false_or] at hDj
          simp [hcl j p hp hDj e he hb]
      · rw [p1]
        by_cases e : o.dst = some t
        · simp only [e, if_true]
          refine (val_at rs 0 _ _ i r hri (by rw [hro]; exact e) (by rw [Nat.zero_add, getD_put hil]; simp) (fun j q hq hlt hd => ?_)).symm
          rw [Nat.zero_add, getD_put hil]
          obtain ⟨t1, t2⟩ := hT.tmp i j o q.o t ho (hrec hq) hd (.inr e)
          have h1 := haft j q hq (t2 hlt)
          have h2 : ¬ j = i := by omega
          simp [h1, h2]
        · simp only [e, if_false]
          rw [hv]
          refine val_congr rs 0 _ _ _ _ rfl fun j q hq hd => ?_
          rw [Nat.zero_add, getD_put hil]
          by_cases e1 : j = i
          · subst e1; rw [hri] at hq; cases hq; rw [hro] at hd; exact absurd hd e
          · simp [e1]

theorem drawA_ok (hE : E.Ok P) : DrawOK P E (drawA E) := by
  intro call round hc hr B w0 ops fr st fr' st' h ι w a rl id hsr hfr
  simp only [drawA] at h
  cases hS : okS E ops.toList
  · simp [hS] at h
  simp only [hS, cond_true] at h
  split at h
  · simp at h
  rename_i rs fr1 st1 hrun
  have hT := okS_ok hS
  have hR : RunOK E (stepV E call round ops.toList) ops.toList fr st rs fr1 st1 := run_ok (fun o fr st r h hl => lightV_st hl h) hrun
  have hboth : (fr1 = fr' ∧ st1 = st') ∧ (heavies rs (masks ops.toList) 0 = [] ∨ okRecs (stepV E call round ops.toList) (heavies rs (masks ops.toList) 0) st (masks ops.toList) rs 0 = true) := by
    split at h
    · rename_i hnil
      simp only [Option.some.injEq, Prod.mk.injEq] at h
      exact ⟨h, .inl hnil⟩
    · cases hb : okRecs (stepV E call round ops.toList) (heavies rs (masks ops.toList) 0) st (masks ops.toList) rs 0
      · rw [hb] at h; simp at h
      · rw [hb] at h
        simp only [cond_true, Option.some.injEq, Prod.mk.injEq] at h
        exact ⟨h, .inr rfl⟩
  obtain ⟨⟨rfl, rfl⟩, hok⟩ := hboth
  refine wpIn_region_any hE.mixed ?_
  have hfalse : ∀ j, (Array.replicate ops.size false).getD j false = false := fun j => by
    by_cases hj : j < ops.size <;> simp [Array.getD_eq_getD_getElem?, hj]
  refine draw_any hE (hc B w0) (hr B w0) hT hR hok (ι0 := ι) (fun ι' a' w' h1 h2 h3 => ⟨rfl, ι', h1, h2, h3⟩) ops.size _ ι a _ fr (by simp) (by simp [Array.toList_replicate]) (fun i o _ h => ?_) ι.le_refl hfr rfl rfl (fun t => ?_) ?_
  · simp only [hfalse] at h; cases h
  · rw [val_none rs 0 _ _ (fun j r _ _ => hfalse _)]; rfl
  · rw [lastH_none rs 0 _ _ (fun j r _ _ => hfalse _)]
    exact hsr.drawn _
end
end
end Go.Ax
