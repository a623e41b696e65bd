/-
  OWN WORK, TOLD ONCE FOR ALL TEXTS YtmjmpmmonelmmaaAxA TO YtmjmpmmonelmmaaAxU: an abstract machine for the program's text that the kernel can run, and the proof that it is sound: what it answers is what the program answers. No condition.
-/
import Derived.Test.YtmjmpmmonelmmaaAxB
namespace Go.Ax
noncomputable section
open Go.RowKit

/-! ### Reading and writing rows of cells -/
theorem add_none (b o n : Nat) : (⟨b, o, none⟩ : Addr).add n = ⟨b, o + n, none⟩ := by
  unfold Addr.add
  by_cases h : n = 0
  · simp [h]
  · simp [h]

def over : List AV → List AV → Option (List AV)
  | [], cs => some cs
  | _ :: _, [] => none
  | v :: vs, _ :: cs =>
    match over vs cs with
    | some r => some (v :: r)
    | none => none

def setL0 : List AV → Nat → List AV → Option (List AV)
  | cs, 0, vs => over vs cs
  | [], _ + 1, vs => match vs with | [] => some [] | _ :: _ => none
  | c :: cs, o + 1, vs =>
    match setL0 cs o vs with
    | some r => some (c :: r)
    | none => none

theorem setL0_nil : ∀ (cs : List AV) (o : Nat), setL0 cs o [] = some cs
  | cs, 0 => by cases cs <;> rfl
  | [], o + 1 => rfl
  | c :: cs, o + 1 => by simp [setL0, setL0_nil cs o]

theorem setL0_cons : ∀ (cs : List AV) (o : Nat) (v : AV) (vs cs' : List AV), setL0 cs o (v :: vs) = some cs' →
    o < cs.length ∧ setL0 (cs.set o v) (o + 1) vs = some cs'
  | [], 0, v, vs, cs', h => by simp [setL0, over] at h
  | c :: cs, 0, v, vs, cs', h => by
    simp only [setL0, over] at h
    refine ⟨by simp, ?_⟩
    simp only [List.set_cons_zero, setL0]
    have e : setL0 cs 0 vs = over vs cs := by cases cs <;> rfl
    first | exact h | (rw [e]; exact h)
  | [], o + 1, v, vs, cs', h => by simp [setL0] at h
  | c :: cs, o + 1, v, vs, cs', h => by
    simp only [setL0] at h
    split at h
    · rename_i r hr
      obtain ⟨h1, h2⟩ := setL0_cons cs o v vs r hr
      refine ⟨by simp; omega, ?_⟩
      simp only [List.set_cons_succ]
      rw [setL0]
      rw [h2]; exact h
    · simp at h


/-- the same without depth -/
def revA : List AV → List AV → List AV
  | [], b => b
  | a :: as, b => revA as (a :: b)
def forceL (l : List AV) : Option (List AV) := match l with | [] => some [] | x :: xs => some (x :: xs)
theorem forceL_eq (l : List AV) : forceL l = some l := by cases l <;> rfl
def setG (vs : List AV) : List AV → Nat → List AV → Option (List AV)
  | cs, 0, acc => match over vs cs with | some r => forceL (revA acc r) | none => none
  | [], _ + 1, acc => match vs with | [] => forceL (revA acc []) | _ :: _ => none
  | c :: cs, o + 1, acc => setG vs cs o (c :: acc)
theorem setG_eq (vs : List AV) : ∀ (cs : List AV) (o : Nat) (acc : List AV), setG vs cs o acc = match setL0 cs o vs with | some r => some (revA acc r) | none => none
  | [], 0, acc => by
    simp only [setG, setL0, forceL_eq]
  | c :: cs, 0, acc => by
    simp only [setG, setL0, forceL_eq]
  | [], o + 1, acc => by
    cases vs <;> simp only [setG, setL0, forceL_eq]
  | c :: cs, o + 1, acc => by
    simp only [setG, setL0, setG_eq vs cs o]
    cases setL0 cs o vs <;> rfl
def setL (cs : List AV) (o : Nat) (vs : List AV) : Option (List AV) := setG vs cs o []
theorem setL_eq (cs : List AV) (o : Nat) (vs : List AV) : setL cs o vs = setL0 cs o vs := by
  unfold setL
  rw [setG_eq]
  cases setL0 cs o vs <;> rfl
theorem setL_nil (cs : List AV) (o : Nat) : setL cs o [] = some cs := by rw [setL_eq]; exact setL0_nil cs o
theorem setL_cons (cs : List AV) (o : Nat) (v : AV) (vs cs' : List AV) (h : setL cs o (v :: vs) = some cs') : o < cs.length ∧ setL (cs.set o v) (o + 1) vs = some cs' := by
  rw [setL_eq] at h
  rw [setL_eq]
  exact setL0_cons cs o v vs cs' h

section
variable {P : Program} {B : Prot} {w0 : World} {ι : Ren} {st : ASt} {w : World}

theorem SR.congr {st' : ASt} (h : SR B w0 ι st w) (hg : ∀ j, st'.h.get j = st.h.get j) (hn : st'.next = st.next) : SR B w0 ι st' w :=
  ⟨h.below, h.base, fun i a hi => h.obj i a (by rw [← hg]; exact hi), fun i a L hi ho hL =>
    let ⟨h1, h2⟩ := h.own i a L (by rw [← hg]; exact hi) ho hL
    ⟨h1, fun j a' L' hj => h2 j a' L' (by rw [← hg]; exact hj)⟩, fun i L hL => by rw [hn]; exact h.dom i L hL, fun i a hi => by rw [hn]; exact h.hdom i a (by rw [← hg]; exact hi), fun i a L hi => h.ro i a L (by rw [← hg]; exact hi), fun i hi => by rw [hn]; exact h.res i hi, h.glob⟩

/-- a state of memory, later -/
theorem SR.later {w' : World} (h : SR B w0 ι st w) (hk : Keeps (fun k => k < w.heap.size) w w') : SR B w0 ι st w' := by
  have hb : ∀ k, B.all k → k < w.heap.size := h.base
  refine ⟨h.below.trans ⟨hk.os, hk.tape, hk.output, hk.size, fun k hB => hk.block k (hb k hB)⟩, fun k hB => Nat.lt_of_lt_of_le (hb k hB) hk.size, fun i a hi hd => ?_, h.own, h.dom, h.hdom, h.ro, h.res, h.glob⟩
  obtain ⟨L, o, h1, h2, h3⟩ := h.obj i a hi hd
  exact ⟨L, o, h1, by rw [hk.block _ ((Array.getElem?_eq_some_iff.1 h2).1)]; exact h2, h3⟩

theorem SR.cell (h : SR B w0 ι st w) {i o : Nat} {cs : List AV} {rw : Bool} {v : AV} {L : Loc} (hi : st.h.get i = some (.cells cs rw)) (hv : cs[o]? = some v)
    (hL : ι i = some L) : ∃ v', w.cell? ⟨L.b, L.p + o, none⟩ = some v' ∧ VR ι v v' ∧ v.isCell = true := by
  obtain ⟨L', ob, h1, h2, c, e, lo, hi', h3, h4, h5, h6, h7, h8⟩ := h.obj i _ hi (by simp)
  rw [hL] at h1; cases h1
  have ho : o < cs.length := (List.getElem?_eq_some_iff.1 hv).1
  have hlt : L.p + o < c.size := by omega
  refine ⟨c[L.p + o], ?_, h7 o v _ hv (by simp [hlt]), h6 v (List.mem_of_getElem? hv)⟩
  simp [World.cell?, h2, h3, hlt]

theorem run_load_of {a : Addr} {v : Value} (h : w.cell? a = some v) : (load a).run P w = .ok v w := by
  simp [h]

def takeL (cs : List AV) (o n : Nat) : Option (List AV) :=
  let l := (cs.drop o).take n
  bif Nat.beq l.length n then some l else none

theorem takeL_ok {cs : List AV} {o n : Nat} {l : List AV} (h : takeL cs o n = some l) : l.length = n ∧ ∀ k, k < n → l[k]? = cs[o + k]? := by
  unfold takeL at h
  cases hb : Nat.beq ((cs.drop o).take n).length n
  · simp only [hb, cond_false, reduceCtorEq] at h
  · simp only [hb, cond_true, Option.some.injEq] at h
    subst h
    refine ⟨Nat.eq_of_beq_eq_true hb, fun k hk => ?_⟩
    simp [hk]

theorem SR.loadCells (h : SR B w0 ι st w) {i o n : Nat} {cs : List AV} {rw : Bool} {l : List AV} {L : Loc} (hi : st.h.get i = some (.cells cs rw))
    (hl : takeL cs o n = some l) (hL : ι i = some L) :
    ∃ r, (Go.loadCells ⟨L.b, L.p + o, none⟩ n).run P w = .ok r w ∧ VRs ι l r ∧ ∀ v, v ∈ l → v.isCell = true := by
  obtain ⟨hlen, hget⟩ := takeL_ok hl
  have key : ∀ j, j < n → ∃ v v', cs[o + j]? = some v ∧ w.cell? ⟨L.b, L.p + o + j, none⟩ = some v' ∧ VR ι v v' ∧ v.isCell = true := fun j hj => by
    have hj' : j < l.length := by omega
    have e : cs[o + j]? = some l[j] := by rw [← hget j hj]; simp [hj']
    obtain ⟨v', h1, h2, h3⟩ := h.cell hi e hL
    exact ⟨_, v', e, by rw [Nat.add_assoc]; exact h1, h2, h3⟩
  have hf : ∃ f : Nat → Value, ∀ j, j < n → w.cell? ⟨L.b, L.p + o + j, none⟩ = some (f j) ∧ ∀ v, cs[o + j]? = some v → VR ι v (f j) := by
    refine ⟨fun j => (w.cell? ⟨L.b, L.p + o + j, none⟩).getD Go.undef, fun j hj => ?_⟩
    obtain ⟨v, v', h1, h2, h3, _⟩ := key j hj
    refine ⟨by simp [h2], fun x hx => ?_⟩
    rw [h1] at hx; cases hx
    simpa [h2] using h3
  obtain ⟨f, hf⟩ := hf
  refine ⟨((List.range n).map f).toArray, run_loadCells w _ n f (fun j hj => by rw [add_none]; exact (hf j hj).1), ⟨by simp [hlen], fun j v v' hv hv' => ?_⟩, fun v hv => ?_⟩
  · have hj : j < n := by have := (List.getElem?_eq_some_iff.1 hv).1; omega
    simp [hj] at hv'
    subst hv'
    exact (hf j hj).2 v (by rw [← hget j hj]; exact hv)
  · obtain ⟨j, hj, e⟩ := List.getElem_of_mem hv
    have hjn : j < n := by omega
    obtain ⟨x, _, h1, _, _, h4⟩ := key j hjn
    have := hget j hjn
    rw [h1] at this
    simp [hj] at this
    rw [← e, this]; exact h4

theorem SR.store1 (h : SR B w0 ι st w) {i o : Nat} {cs : List AV} {v : AV} {v' : Value} {L : Loc} (hi : st.h.get i = some (.cells cs true)) (ho : o < cs.length)
    (hL : ι i = some L) (hv : VR ι v v') (hc : v.isCell = true) :
    ∃ w', (Go.store ⟨L.b, L.p + o, none⟩ v').run P w = .ok () w' ∧ SR B w0 ι (st.put i (.cells (cs.set o v) true)) w' := by
  obtain ⟨L', ob, h1, h2, c, e, lo, hi', h3, h4, h5, h6, h7, h8⟩ := h.obj i _ hi (by simp)
  rw [hL] at h1; cases h1
  have hfz := h8 rfl
  have hlt : L.p + o < c.size := by omega
  have hcell : w.cell? ⟨L.b, L.p + o, none⟩ = some c[L.p + o] := by simp [World.cell?, h2, h3, hlt]
  have hfr : w.frozen? ⟨L.b, L.p + o, none⟩ = false := by
    simp only [World.frozen?, h2, h3]
    rcases hfz with hfz | hfz
    · simp; omega
    · simp; omega
  have hone : v'.oneCell' = true := by cases hv <;> simp_all [AV.isCell, Value.oneCell']
  refine ⟨setObjW w L.b (.cells (c.setIfInBounds (L.p + o) v') e (lo, hi')), ?_, ?_⟩
  · rw [run_store _ _ _ _ _ hone]
    simp only [hcell, hfr, Bool.false_eq_true, if_false]
    congr 1
    simp only [World.setCell, setObjW]
    congr 1
    apply Array.ext_getElem?
    intro k
    rw [Array.getElem?_modify, Array.getElem?_setIfInBounds]
    have hb : L.b < w.heap.size := (Array.getElem?_eq_some_iff.1 h2).1
    by_cases hk : L.b = k
    · subst hk
      have e2 : w.heap[L.b] = .cells c e (lo, hi') := by
        have := h2; rw [h3] at this; simpa [hb] using this
      simp [hb, e2]
    · simp [hk]
  · refine h.write hi rfl hL ⟨_, e, lo, hi', rfl, by simpa using h4, by simpa using h5, ?_, ?_, fun _ => by simpa using hfz⟩
    · intro x hx
      rcases List.mem_or_eq_of_mem_set hx with hx | hx
      · exact h6 x hx
      · rw [hx]; exact hc
    · intro k x x' hx hx'
      rw [List.getElem?_set] at hx
      rw [Array.getElem?_setIfInBounds] at hx'
      by_cases hk : o = k
      · subst hk
        simp [ho] at hx
        simp [hlt] at hx'
        subst hx; subst hx'; exact hv
      · have hk' : ¬ (L.p + o = L.p + k) := by omega
        simp only [hk, if_false] at hx
        simp only [hk', if_false] at hx'
        exact h7 k x x' hx hx'

theorem put_put (st : ASt) (i : Nat) (a b : AO) : ∀ j, (st.put i b).h.get j = ((st.put i a).put i b).h.get j := fun j => by
  show (T.set D st.h i b).get j = (T.set D (T.set D st.h i a) i b).get j
  rw [T.get_set, T.get_set, T.get_set]
  by_cases h : j = i <;> simp [h]

theorem put_get (st : ASt) (i : Nat) (a : AO) : (st.put i a).h.get i = some a := by
  show (T.set D st.h i a).get i = _
  rw [T.get_set]; simp

theorem put_same (st : ASt) {i : Nat} {a : AO} (h : st.h.get i = some a) : ∀ j, (st.put i a).h.get j = st.h.get j := fun j => by
  show (T.set D st.h i a).get j = _
  rw [T.get_set]; by_cases e : j = i <;> simp [e, h]

theorem SR.storeCells {L : Loc} {i : Nat} : ∀ (vs : List AV) (l : List Value) (k o : Nat) (cs cs' : List AV) (st : ASt) (w : World), SR B w0 ι st w →
    st.h.get i = some (.cells cs true) → ι i = some L → setL cs (o + k) vs = some cs' → VRs ι vs l.toArray → (∀ v, v ∈ vs → v.isCell = true) →
    ∃ w', (Go.storeCells ⟨L.b, L.p + o, none⟩ l k).run P w = .ok () w' ∧ SR B w0 ι (st.put i (.cells cs' true)) w'
  | [], l, k, o, cs, cs', st, w, h, hi, hL, hs, hv, hc => by
    have : l = [] := by have := hv.size; simp at this; exact List.length_eq_zero_iff.1 this.symm
    subst this
    rw [setL_nil] at hs; cases hs
    exact ⟨w, by simp [Go.storeCells], h.congr (put_same st hi) rfl⟩
  | v :: vs, [], k, o, cs, cs', st, w, h, hi, hL, hs, hv, hc => by have := hv.size; simp at this
  | v :: vs, x :: l, k, o, cs, cs', st, w, h, hi, hL, hs, hv, hc => by
    obtain ⟨ho, hs'⟩ := setL_cons _ _ _ _ _ hs
    have hx : VR ι v x := hv.at_ 0 v x rfl (by simp)
    obtain ⟨w1, hr1, h1⟩ := h.store1 (P := P) hi ho hL hx (hc v (by simp))
    have hv' : VRs ι vs l.toArray := ⟨by have := hv.size; simp at this; simpa using this, fun j a b ha hb => hv.at_ (j + 1) a b (by simpa using ha) (by simpa using hb)⟩
    obtain ⟨w2, hr2, h2⟩ := SR.storeCells vs l (k + 1) o (cs.set (o + k) v) cs' (st.put i (.cells (cs.set (o + k) v) true)) w1 h1 (put_get _ _ _) hL
      (by rw [← Nat.add_assoc]; exact hs') hv' (fun y hy => hc y (by simp [hy]))
    refine ⟨w2, ?_, h2.congr (fun j => put_put st i _ _ j) rfl⟩
    simp only [Go.storeCells, Sem.run_bind, add_none]
    rw [Nat.add_assoc, hr1]
    exact hr2

/-- a row of values laid over the cells of a block, as the concrete heap has it -/
theorem storeRow {b : Nat} {e : TypeId} {lo hi : Nat} : ∀ (l : List Value) (k q : Nat) (c : Array Value) (w : World), w.heap[b]? = some (.cells c e (lo, hi)) → q + k + l.length ≤ c.size →
    (hi = lo ∨ c.size ≤ lo) → (∀ v, v ∈ l → v.oneCell' = true) →
    ∃ c', (Go.storeCells ⟨b, q, none⟩ l k).run P w = .ok () (setObjW w b (.cells c' e (lo, hi))) ∧ c'.size = c.size ∧
      ∀ j, c'[j]? = if q + k ≤ j ∧ j < q + k + l.length then l[j - (q + k)]? else c[j]?
  | [], k, q, c, w, hh, hb, hf, hv => by
    refine ⟨c, ?_, rfl, fun j => by simp; omega⟩
    simp only [Go.storeCells, Sem.run_pure]
    congr 1
    have hlt : b < w.heap.size := (Array.getElem?_eq_some_iff.1 hh).1
    have : w.heap.setIfInBounds b (.cells c e (lo, hi)) = w.heap := by
      apply Array.ext_getElem?
      intro j
      rw [Array.getElem?_setIfInBounds]
      by_cases e : b = j
      · subst e; simp [hlt] ; rw [Array.getElem?_eq_getElem hlt] at hh; simpa using hh.symm
      · simp [e]
    simp only [setObjW, this]
  | x :: l, k, q, c, w, hh, hb, hf, hv => by
    simp only [List.length_cons] at hb
    have hlt : q + k < c.size := by omega
    have hcell : w.cell? ⟨b, q + k, none⟩ = some c[q + k] := by simp [World.cell?, hh, hlt]
    have hfr : w.frozen? ⟨b, q + k, none⟩ = false := by
      simp only [World.frozen?, hh]
      rcases hf with hf | hf
      · simp; omega
      · simp; omega
    have hone : x.oneCell' = true := hv x (by simp)
    have hblt : b < w.heap.size := (Array.getElem?_eq_some_iff.1 hh).1
    let w1 := setObjW w b (.cells (c.setIfInBounds (q + k) x) e (lo, hi))
    have h1 : w1.heap[b]? = some (.cells (c.setIfInBounds (q + k) x) e (lo, hi)) := by rw [heap_setObjW]; simp [hblt]
    obtain ⟨c', r1, r2, r3⟩ := storeRow l (k + 1) q (c.setIfInBounds (q + k) x) w1 h1 (by simp; omega) (by simpa using hf) (fun v h => hv v (by simp [h]))
    refine ⟨c', ?_, by rw [r2]; simp, fun j => ?_⟩
    · simp only [Go.storeCells, Sem.run_bind, add_none]
      rw [run_store _ _ _ _ _ hone]
      simp only [hcell, hfr, Bool.false_eq_true, if_false, Result.andThen_ok]
      have e1 : w.setCell ⟨b, q + k, none⟩ x = w1 := by
        simp only [World.setCell, w1, setObjW]
        congr 1
        apply Array.ext_getElem?
        intro j
        rw [Array.getElem?_modify, Array.getElem?_setIfInBounds]
        by_cases hk : b = j
        · subst hk
          have e2 : w.heap[b] = .cells c e (lo, hi) := by simpa [hblt] using hh
          simp [hblt, e2]
        · simp [hk]
      rw [e1, r1]
      congr 1
      simp only [w1, setObjW, Array.setIfInBounds_setIfInBounds]
    · rw [r3 j]
      simp only [List.length_cons]
      by_cases c1 : q + (k + 1) ≤ j ∧ j < q + (k + 1) + l.length
      · have c2 : q + k ≤ j ∧ j < q + k + (l.length + 1) := by omega
        simp only [c1, c2, and_self, if_true]
        have : j - (q + k) = (j - (q + (k + 1))) + 1 := by omega
        rw [this, List.getElem?_cons_succ]
      · simp only [c1, if_false]
        rw [Array.getElem?_setIfInBounds]
        by_cases c3 : q + k = j
        · subst c3; simp [hlt]
        · have c4 : ¬ (q + k ≤ j ∧ j < q + k + (l.length + 1)) := by omega
          simp [c3, c4]
end
end
end Go.Ax
