/-
  OWN WORK, TOLD ONCE FOR ALL TEXTS YtmjmpmmonelmmaaAxA TO YtmjmpmmonelmmaaAxU: an abstract machine for the program's text that the kernel can run, and the proof that it is sound: what it answers is what the program answers. No condition.
-/
import Derived.Test.YtmjmpmmonelmmaaAxA
namespace Go.Ax
noncomputable section
open Go.RowKit

/-! ### The state -/
/-- a frame: its slots, how many, the blocks of its ranges over functions -/
structure AFr where
  m : T AV
  n : Nat
  defs : List Nat

inductive AO where
  | cells (cs : List AV) (rw : Bool)
  | dead
  | loop (state : LoopState) (pending : Option Code) (tmps : AFr) (params : List Tmp) (assign body : Code) (defers : Nat)
  | defd
  | map (es : List (AV × AV × Nat)) (clock : Nat)
  | siter (s : List Nat) (pos : Nat)
  | miter (m : Option Nat) (since : Nat) (seen : List Nat) (last : Nat)

def AO.own : AO → Bool
  | .cells _ rw => rw
  | .dead => false
  | _ => true

structure ASt where
  h : T AO
  next : Nat

/-- frames -/
def FR (ι : Ren) (fr : AFr) (tmps : Array Value) : Prop := tmps.size = fr.n ∧ ∀ t, VR ι ((fr.m.get t).getD undefA) (tmps.getD t undef)

theorem FR.mono {ι κ : Ren} (hle : ι.le κ) {fr : AFr} {tmps : Array Value} (h : FR ι fr tmps) : FR κ fr tmps := ⟨h.1, fun t => (h.2 t).mono hle⟩

theorem VR.undef (ι : Ren) : VR ι undefA Go.undef := .tuple [] #[] rfl (fun i v v' h => by simp at h)

def OR (ι : Ren) (L : Loc) : AO → Obj → Prop
  | .cells cs rw, o => ∃ c e lo hi, o = .cells c e (lo, hi) ∧ c.size = L.tot ∧ L.p + cs.length ≤ c.size ∧ (∀ v, v ∈ cs → v.isCell = true) ∧
      (∀ (k : Nat) v v', cs[k]? = some v → c[L.p + k]? = some v' → VR ι v v') ∧ (rw = true → hi = lo ∨ c.size ≤ lo)
  | .dead, _ => True
  | .loop st pe tm ps as bo de, o => ∃ r : Loop, o = .loop r ∧ r.state = st ∧ r.pending = pe ∧ FR ι tm r.tmps ∧ r.params.toList = ps ∧ r.assign = as ∧ r.body = bo ∧
      ∃ D, ι de = some D ∧ D.b = r.defers
  | .defd, o => o = .deferred (some [])
  | .map es clock, o => ∃ es' : Array MapEntry, o = .map es' clock ∧ es.length = es'.size ∧ ∀ (i : Nat) x e, es[i]? = some x → es'[i]? = some e → VR ι x.1 e.key ∧ VR ι x.2.1 e.val ∧ x.2.2 = e.born
  | .siter s pos, o => L.p = 0 ∧ ∃ b : ByteArray, o = .stringIter b pos ∧ b.data.toList.map UInt8.toNat = s
  | .miter m since seen last, o => L.p = 0 ∧ ∃ m', o = .mapIter m' since seen.toArray last ∧ match m with | none => m' = none | some i => ∃ D, ι i = some D ∧ m' = some D.b

theorem OR.mono {ι κ : Ren} (hle : ι.le κ) {L : Loc} {a : AO} {o : Obj} (h : OR ι L a o) : OR κ L a o := by
  cases a with
  | cells cs rw =>
    obtain ⟨c, e, lo, hi, h1, h2, h3, h4, h5, h6⟩ := h
    exact ⟨c, e, lo, hi, h1, h2, h3, h4, fun k v v' a b => (h5 k v v' a b).mono hle, h6⟩
  | dead => trivial
  | loop st pe tm ps as bo de =>
    obtain ⟨r, h1, h2, h3, h4, h5, h6, h7, D, h8, h9⟩ := h
    exact ⟨r, h1, h2, h3, h4.mono hle, h5, h6, h7, D, hle _ _ h8, h9⟩
  | defd => exact h
  | map es clock =>
    obtain ⟨es', h1, h2, h3⟩ := h
    exact ⟨es', h1, h2, fun i x e a b => ⟨(h3 i x e a b).1.mono hle, (h3 i x e a b).2.1.mono hle, (h3 i x e a b).2.2⟩⟩
  | siter s pos => exact h
  | miter m since seen last =>
    obtain ⟨h0, m', h1, h2⟩ := h
    refine ⟨h0, m', h1, ?_⟩
    cases m with
    | none => exact h2
    | some i => obtain ⟨D, h3, h4⟩ := h2; exact ⟨D, hle _ _ h3, h4⟩

/-- the blocks of B read as they did -/
structure Keeps (B : Nat → Prop) (w w' : World) : Prop where
  os : w'.os = w.os
  tape : w'.tape = w.tape
  output : w'.output = w.output
  size : w.heap.size ≤ w'.heap.size
  block : ∀ k, B k → w'.heap[k]? = w.heap[k]?

theorem Keeps.refl (B : Nat → Prop) (w : World) : Keeps B w w := ⟨rfl, rfl, rfl, Nat.le_refl _, fun _ _ => rfl⟩

theorem Keeps.trans {B : Nat → Prop} {a b c : World} (h : Keeps B a b) (k : Keeps B b c) : Keeps B a c :=
  ⟨k.os.trans h.os, k.tape.trans h.tape, k.output.trans h.output, Nat.le_trans h.size k.size, fun i hi => (k.block i hi).trans (h.block i hi)⟩

theorem Keeps.alloc {B : Nat → Prop} {a w : World} (h : Keeps B a w) (hB : ∀ k, B k → k < w.heap.size) (o : Obj) : Keeps B a (w.alloc o) :=
  h.trans ⟨rfl, rfl, rfl, by simp, fun k hk => Below.heap_alloc _ _ _ (hB k hk)⟩

/-- what must stay as it is: what one may read, and what else -/
structure Prot where
  ro : Nat → Prop
  ex : Nat → Prop
  rs : Nat → Prop      -- numbers that are set aside

def Prot.all (B : Prot) (k : Nat) : Prop := B.ro k ∨ B.ex k

structure SR (B : Prot) (w0 : World) (ι : Ren) (st : ASt) (w : World) : Prop where
  below : Keeps B.all w0 w
  base : ∀ k, B.all k → k < w.heap.size
  obj : ∀ i a, st.h.get i = some a → a ≠ .dead → ∃ L o, ι i = some L ∧ w.heap[L.b]? = some o ∧ OR ι L a o
  own : ∀ i a L, st.h.get i = some a → a.own = true → ι i = some L →
    ¬ B.all L.b ∧ ∀ j a' L', st.h.get j = some a' → a' ≠ .dead → ι j = some L' → L'.b = L.b → j = i
  dom : ∀ i L, ι i = some L → i < st.next
  hdom : ∀ i a, st.h.get i = some a → i < st.next
  ro : ∀ i a L, st.h.get i = some a → a ≠ .dead → a.own = false → ι i = some L → B.ro L.b
  res : ∀ i, B.rs i → i < st.next ∧ ι i = none
  glob : ∀ g cs, glV g = some cs → B.all g ∧ GlobAt w0 g cs

theorem SR.globw {B : Prot} {w0 : World} {ι : Ren} {st : ASt} {w : World} (h : SR B w0 ι st w) : GlobOK w := fun g cs hg => (h.glob g cs hg).2.to (h.below.block g (h.glob g cs hg).1)

def D : Nat := 20

def ASt.put (st : ASt) (i : Nat) (a : AO) : ASt := { st with h := st.h.set D i a }
def ASt.add (st : ASt) (a : AO) : ASt := { h := st.h.set D st.next a, next := st.next + 1 }

def Ren.ext (ι : Ren) (i : Nat) (L : Loc) : Ren := fun j => if j = i then some L else ι j

theorem Ren.ext_other {ι : Ren} {i j : Nat} {L : Loc} (h : j ≠ i) : (ι.ext i L) j = ι j := by simp [Ren.ext, h]

theorem Ren.le_ext {ι : Ren} {i : Nat} {L : Loc} (h : ι i = none) : ι.le (ι.ext i L) := by
  intro j x hx
  by_cases e : j = i
  · subst e; rw [h] at hx; simp at hx
  · simp [Ren.ext, e, hx]

section
variable {B : Prot} {w0 : World} {ι : Ren} {st : ASt} {w : World}

theorem SR.next_none (h : SR B w0 ι st w) : ι st.next = none := by
  cases hn : ι st.next with
  | none => rfl
  | some L => exact absurd (h.dom _ _ hn) (Nat.lt_irrefl _)

theorem heap_alloc_lt (w : World) (o : Obj) {k : Nat} {x : Obj} (h : w.heap[k]? = some x) : (w.alloc o).heap[k]? = some x := by
  have hk : k < w.heap.size := (Array.getElem?_eq_some_iff.1 h).1
  show (w.heap.push o)[k]? = _
  rw [Array.getElem?_push, if_neg (by omega)]; exact h

theorem heap_alloc_at (w : World) (o : Obj) : (w.alloc o).heap[w.heap.size]? = some o := by
  show (w.heap.push o)[w.heap.size]? = _
  simp

theorem obj_lt {h : SR B w0 ι st w} {i : Nat} {a : AO} {L : Loc} (hi : st.h.get i = some a) (hd : a ≠ .dead) (hL : ι i = some L) : L.b < w.heap.size := by
  obtain ⟨L', o, h1, h2, _⟩ := h.obj i a hi hd
  rw [hL] at h1; cases h1
  exact (Array.getElem?_eq_some_iff.1 h2).1

/-- a new block -/
theorem SR.alloc (h : SR B w0 ι st w) (a : AO) (o : Obj) (tot : Nat) (ho : OR ι ⟨w.heap.size, 0, tot⟩ a o) (hown : a.own = true := by rfl) :
    SR B w0 (ι.ext st.next ⟨w.heap.size, 0, tot⟩) (st.add a) (w.alloc o) ∧ ι.le (ι.ext st.next ⟨w.heap.size, 0, tot⟩) ∧
      (ι.ext st.next ⟨w.heap.size, 0, tot⟩) st.next = some ⟨w.heap.size, 0, tot⟩ := by
  have hle := Ren.le_ext (L := ⟨w.heap.size, 0, tot⟩) h.next_none
  have hat : (ι.ext st.next ⟨w.heap.size, 0, tot⟩) st.next = some ⟨w.heap.size, 0, tot⟩ := by simp [Ren.ext]
  have hget : ∀ i, (st.add a).h.get i = if i = st.next then some a else st.h.get i := fun i => T.get_set _ _ _ _ _
  refine ⟨⟨h.below.alloc h.base o, ?_, ?_, ?_, ?_, ?_, ?_, fun i hi => ⟨Nat.lt_succ_of_lt (h.res i hi).1, (Ren.ext_other (Nat.ne_of_lt (h.res i hi).1)).trans (h.res i hi).2⟩, h.glob⟩, hle, hat⟩
  · intro k hk; have := h.base k hk; show k < (w.heap.push o).size; simp; omega
  · intro i a' hi hd
    rw [hget] at hi
    by_cases e : i = st.next
    · subst e
      simp at hi; subst hi
      exact ⟨_, o, hat, heap_alloc_at w o, ho.mono hle⟩
    · simp only [e, if_false] at hi
      obtain ⟨L, o', h1, h2, h3⟩ := h.obj i a' hi hd
      exact ⟨L, o', hle _ _ h1, heap_alloc_lt w o h2, h3.mono hle⟩
  · intro i a' L hi ho' hL
    rw [hget] at hi
    by_cases e : i = st.next
    · subst e
      rw [hat] at hL; cases hL
      refine ⟨fun hk => Nat.lt_irrefl _ (h.base _ hk), fun j a'' L' hj hd hL' hb => ?_⟩
      rw [hget] at hj
      by_cases e' : j = st.next
      · exact e'
      · simp only [e', if_false] at hj
        simp only [Ren.ext, e', if_false] at hL'
        have := obj_lt (h := h) hj hd hL'
        simp at hb; omega
    · simp only [e, if_false] at hi
      simp only [Ren.ext, e, if_false] at hL
      obtain ⟨h1, h2⟩ := h.own i a' L hi ho' hL
      have hnd : a' ≠ .dead := by intro e; subst e; simp [AO.own] at ho'
      refine ⟨h1, fun j a'' L' hj hd hL' hb => ?_⟩
      rw [hget] at hj
      by_cases e' : j = st.next
      · subst e'
        rw [hat] at hL'; cases hL'
        have := obj_lt (h := h) hi hnd hL
        simp at hb; omega
      · simp only [e', if_false] at hj
        simp only [Ren.ext, e', if_false] at hL'
        exact h2 j a'' L' hj hd hL' hb
  · intro i L hL
    show i < st.next + 1
    by_cases e : i = st.next
    · omega
    · simp only [Ren.ext, e, if_false] at hL
      have := h.dom i L hL; omega
  · intro i a' hi
    show i < st.next + 1
    rw [hget] at hi
    by_cases e : i = st.next
    · omega
    · simp only [e, if_false] at hi
      have := h.hdom i a' hi; omega
  · intro i a' L hi hd hno hL
    rw [hget] at hi
    by_cases e : i = st.next
    · subst e
      simp only [if_true, Option.some.injEq] at hi; subst hi
      rw [hown] at hno; cases hno
    · simp only [e, if_false] at hi
      simp only [Ren.ext, e, if_false] at hL
      exact h.ro i a' L hi hd hno hL

def setObjW (w : World) (b : Nat) (o : Obj) : World := { w with heap := w.heap.setIfInBounds b o }

theorem heap_setObjW (w : World) (b : Nat) (o : Obj) (k : Nat) : (setObjW w b o).heap[k]? = if b = k ∧ k < w.heap.size then some o else w.heap[k]? := by
  simp only [setObjW, Array.getElem?_setIfInBounds]
  by_cases h : b = k
  · subst h
    by_cases h' : b < w.heap.size
    · simp [h']
    · simp [h']
  · simp [h]

theorem Keeps.setObjW {B : Nat → Prop} {a w : World} (h : Keeps B a w) {b : Nat} (hb : ¬ B b) (o : Obj) : Keeps B a (Ax.setObjW w b o) :=
  h.trans ⟨rfl, rfl, rfl, by simp [Ax.setObjW], fun k hk => by
    rw [heap_setObjW]; rw [if_neg]
    rintro ⟨e, _⟩; subst e; exact hb hk⟩

/-- a block of one's own is written -/
theorem SR.write (h : SR B w0 ι st w) {i : Nat} {a a' : AO} {L : Loc} {o' : Obj} (hi : st.h.get i = some a) (ho : a.own = true) (hL : ι i = some L)
    (hr : OR ι L a' o') (hown : a'.own = true := by rfl) : SR B w0 ι (st.put i a') (setObjW w L.b o') := by
  obtain ⟨hB, huniq⟩ := h.own i a L hi ho hL
  have hnd : a ≠ .dead := by intro e; subst e; simp [AO.own] at ho
  have hlt := obj_lt (h := h) hi hnd hL
  have hget : ∀ j, (st.put i a').h.get j = if j = i then some a' else st.h.get j := fun j => T.get_set _ _ _ _ _
  refine ⟨Keeps.setObjW h.below hB o', fun k hk => by have := h.base k hk; simpa [setObjW] using this, ?_, ?_, h.dom, ?_, ?_, h.res, h.glob⟩
  · intro j x hj hd
    rw [hget] at hj
    by_cases e : j = i
    · subst e
      simp at hj; subst hj
      exact ⟨L, o', hL, by rw [heap_setObjW]; simp [hlt], hr⟩
    · simp only [e, if_false] at hj
      obtain ⟨L', o, h1, h2, h3⟩ := h.obj j x hj hd
      refine ⟨L', o, h1, ?_, h3⟩
      rw [heap_setObjW, if_neg]
      · exact h2
      · rintro ⟨hb, _⟩
        exact e (huniq j x L' hj hd h1 hb.symm)
  · intro j x L' hj ho'' hL'
    rw [hget] at hj
    by_cases e : j = i
    · subst e
      simp at hj; subst hj
      rw [hL] at hL'; cases hL'
      refine ⟨hB, fun k y L'' hk hd hk' hb => ?_⟩
      rw [hget] at hk
      by_cases e' : k = j
      · exact e'
      · simp only [e', if_false] at hk
        exact huniq k y L'' hk hd hk' hb
    · simp only [e, if_false] at hj
      obtain ⟨h1, h2⟩ := h.own j x L' hj ho'' hL'
      refine ⟨h1, fun k y L'' hk hd hk' hb => ?_⟩
      rw [hget] at hk
      by_cases e' : k = i
      · subst e'
        rw [hL] at hk'; cases hk'
        exact h2 k a L hi hnd hL hb
      · simp only [e', if_false] at hk
        exact h2 k y L'' hk hd hk' hb
  · intro j x hj
    rw [hget] at hj
    by_cases e : j = i
    · subst e; exact h.hdom _ _ hi
    · simp only [e, if_false] at hj; exact h.hdom j x hj
  · intro j x L' hj hd hno hL'
    rw [hget] at hj
    by_cases e : j = i
    · simp only [e, if_true, Option.some.injEq] at hj; subst hj
      rw [hown] at hno; cases hno
    · simp only [e, if_false] at hj
      exact h.ro j x L' hj hd hno hL'

/-- a block is forgotten -/
theorem SR.kill (h : SR B w0 ι st w) {i : Nat} {a : AO} (hi : st.h.get i = some a) : SR B w0 ι (st.put i .dead) w := by
  have hget : ∀ j, (st.put i .dead).h.get j = if j = i then some .dead else st.h.get j := fun j => T.get_set _ _ _ _ _
  refine ⟨h.below, h.base, ?_, ?_, h.dom, ?_, ?_, h.res, h.glob⟩
  · intro j x hj hd
    rw [hget] at hj
    by_cases e : j = i
    · subst e; simp at hj; exact absurd hj.symm hd
    · simp only [e, if_false] at hj; exact h.obj j x hj hd
  · intro j x L' hj ho'' hL'
    rw [hget] at hj
    by_cases e : j = i
    · subst e; simp at hj; subst hj; simp [AO.own] at ho''
    · simp only [e, if_false] at hj
      obtain ⟨h1, h2⟩ := h.own j x L' hj ho'' hL'
      refine ⟨h1, fun k y L'' hk hd hk' hb => ?_⟩
      rw [hget] at hk
      by_cases e' : k = i
      · subst e'; simp at hk; exact absurd hk.symm hd
      · simp only [e', if_false] at hk
        exact h2 k y L'' hk hd hk' hb
  · intro j x hj
    rw [hget] at hj
    by_cases e : j = i
    · subst e; exact h.hdom _ _ hi
    · simp only [e, if_false] at hj; exact h.hdom j x hj
  · intro j x L' hj hd hno hL'
    rw [hget] at hj
    by_cases e : j = i
    · simp only [e, if_true, Option.some.injEq] at hj; exact absurd hj.symm hd
    · simp only [e, if_false] at hj
      exact h.ro j x L' hj hd hno hL'

/-- a block goes on under a new number -/
theorem SR.move (h : SR B w0 ι st w) {i : Nat} {a a' : AO} {L L' : Loc} (hi : st.h.get i = some a) (ho : a.own = true) (hL : ι i = some L)
    (hb : L'.b = L.b) (hr : ∀ o, w.heap[L.b]? = some o → OR ι L' a' o) (hown : a'.own = true := by rfl) :
    SR B w0 (ι.ext st.next L') ((st.put i .dead).add a') w ∧ ι.le (ι.ext st.next L') ∧ (ι.ext st.next L') st.next = some L' := by
  have hle := Ren.le_ext (L := L') h.next_none
  have hat : (ι.ext st.next L') st.next = some L' := by simp [Ren.ext]
  have hnd : a ≠ .dead := by intro e; subst e; simp [AO.own] at ho
  have hin : i < st.next := h.hdom _ _ hi
  obtain ⟨hB, huniq⟩ := h.own i a L hi ho hL
  have hget : ∀ j, ((st.put i .dead).add a').h.get j = if j = st.next then some a' else if j = i then some .dead else st.h.get j := fun j => by
    show (T.set D (T.set D st.h i .dead) st.next a').get j = _
    rw [T.get_set, T.get_set]
  refine ⟨⟨h.below, h.base, ?_, ?_, ?_, ?_, ?_, fun i hi => ⟨Nat.lt_succ_of_lt (h.res i hi).1, (Ren.ext_other (Nat.ne_of_lt (h.res i hi).1)).trans (h.res i hi).2⟩, h.glob⟩, hle, hat⟩
  · intro j x hj hd
    rw [hget] at hj
    by_cases e : j = st.next
    · subst e
      simp at hj; subst hj
      obtain ⟨L1, o, h1, h2, h3⟩ := h.obj i a hi hnd
      rw [hL] at h1; cases h1
      exact ⟨L', o, hat, by rw [hb]; exact h2, (hr o h2).mono hle⟩
    · simp only [e, if_false] at hj
      by_cases e' : j = i
      · simp only [e', if_true, Option.some.injEq] at hj; exact absurd hj.symm hd
      · simp only [e', if_false] at hj
        obtain ⟨L1, o, h1, h2, h3⟩ := h.obj j x hj hd
        exact ⟨L1, o, hle _ _ h1, h2, h3.mono hle⟩
  · intro j x L1 hj ho'' hL1
    rw [hget] at hj
    by_cases e : j = st.next
    · subst e
      rw [hat] at hL1; cases hL1
      refine ⟨by rw [hb]; exact hB, fun k y L'' hk hd hk' hbb => ?_⟩
      rw [hget] at hk
      by_cases e' : k = st.next
      · exact e'
      · simp only [e', if_false] at hk
        by_cases e'' : k = i
        · simp only [e'', if_true, Option.some.injEq] at hk; exact absurd hk.symm hd
        · simp only [e'', if_false] at hk
          simp only [Ren.ext, e', if_false] at hk'
          exact absurd (huniq k y L'' hk hd hk' (by rw [hbb, hb])) e''
    · simp only [e, if_false] at hj
      by_cases e' : j = i
      · simp only [e', if_true, Option.some.injEq] at hj; subst hj; simp [AO.own] at ho''
      · simp only [e', if_false] at hj
        simp only [Ren.ext, e, if_false] at hL1
        obtain ⟨h1, h2⟩ := h.own j x L1 hj ho'' hL1
        refine ⟨h1, fun k y L'' hk hd hk' hbb => ?_⟩
        rw [hget] at hk
        by_cases e2 : k = st.next
        · subst e2
          rw [hat] at hk'; cases hk'
          exact absurd (h2 i a L hi hnd hL (by rw [← hb]; exact hbb)).symm e'
        · simp only [e2, if_false] at hk
          by_cases e3 : k = i
          · simp only [e3, if_true, Option.some.injEq] at hk; exact absurd hk.symm hd
          · simp only [e3, if_false] at hk
            simp only [Ren.ext, e2, if_false] at hk'
            exact h2 k y L'' hk hd hk' hbb
  · intro j L1 hL1
    show j < st.next + 1
    by_cases e : j = st.next
    · omega
    · simp only [Ren.ext, e, if_false] at hL1
      have := h.dom j L1 hL1; omega
  · intro j x hj
    show j < st.next + 1
    rw [hget] at hj
    by_cases e : j = st.next
    · omega
    · simp only [e, if_false] at hj
      by_cases e' : j = i
      · omega
      · simp only [e', if_false] at hj
        have := h.hdom j x hj; omega
  · intro j x L1 hj hd hno hL1
    rw [hget] at hj
    by_cases e : j = st.next
    · simp only [e, if_true, Option.some.injEq] at hj; subst hj
      rw [hown] at hno; cases hno
    · simp only [e, if_false] at hj
      by_cases e' : j = i
      · simp only [e', if_true, Option.some.injEq] at hj; exact absurd hj.symm hd
      · simp only [e', if_false] at hj
        simp only [Ren.ext, e, if_false] at hL1
        exact h.ro j x L1 hj hd hno hL1

/-- a draw -/
theorem SR.drawn (h : SR B w0 ι st w) (n : Nat) : SR B w0 ι st { w with drawn := n } :=
  ⟨h.below.trans ⟨rfl, rfl, rfl, Nat.le_refl _, fun _ _ => rfl⟩, h.base, h.obj, h.own, h.dom, h.hdom, h.ro, h.res, h.glob⟩
end
end
end Go.Ax
