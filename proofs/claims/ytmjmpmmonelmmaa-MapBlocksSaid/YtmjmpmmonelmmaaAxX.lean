/-
  OWN WORK, TOLD ONCE FOR ALL TEXTS YtmjmpmmonelmmaaAxA TO YtmjmpmmonelmmaaAxU: an abstract machine for the program's text that the kernel can run, and the proof that it is sound: what it answers is what the program answers. No condition.
-/
import Derived.Test.YtmjmpmmonelmmaaAxQ
namespace Go.Ax
noncomputable section
open Go.RowKit Go.Region

/-! ### Objects that are made on the side -/
section
variable {B : Prot} {w0 : World} {ι : Ren} {st : ASt} {w : World}

theorem SR.lessrs (h : SR B w0 ι st w) {rs : Nat → Prop} (hrs : ∀ i, rs i → B.rs i) : SR ⟨B.ro, B.ex, rs⟩ w0 ι st w :=
  ⟨h.below, h.base, h.obj, h.own, h.dom, h.hdom, h.ro, fun i hi => h.res i (hrs i hi), h.glob⟩

/-- an object at a number that was set aside -/
theorem SR.allocAt {rs : Nat → Prop} (h : SR B w0 ι st w) {k : Nat} (a : AO) (o : Obj) (tot : Nat) (ho : OR ι ⟨w.heap.size, 0, tot⟩ a o) (hown : a.own = true) (hk : k < st.next) (hn : ι k = none)
    (hrs : ∀ i, rs i → B.rs i ∧ i ≠ k) :
    SR ⟨B.ro, B.ex, rs⟩ w0 (ι.ext k ⟨w.heap.size, 0, tot⟩) (st.put k a) (w.alloc o) ∧ ι.le (ι.ext k ⟨w.heap.size, 0, tot⟩) ∧ (ι.ext k ⟨w.heap.size, 0, tot⟩) k = some ⟨w.heap.size, 0, tot⟩ := by
  have hle := Ren.le_ext (L := ⟨w.heap.size, 0, tot⟩) hn
  have hat : (ι.ext k ⟨w.heap.size, 0, tot⟩) k = some ⟨w.heap.size, 0, tot⟩ := by simp [Ren.ext]
  have hget : ∀ i, (st.put k a).h.get i = if i = k then some a else st.h.get i := fun i => T.get_set _ _ _ _ _
  refine ⟨⟨h.below.alloc h.base o, ?_, ?_, ?_, ?_, ?_, ?_, fun i hi => ⟨(h.res i (hrs i hi).1).1, (Ren.ext_other (hrs i hi).2).trans (h.res i (hrs i hi).1).2⟩, h.glob⟩, hle, hat⟩
  · intro k hk; have := h.base k hk; show k < (w.heap.push o).size; simp; omega
  · intro i a' hi hd
    rw [hget] at hi
    by_cases e : i = k
    · subst e
      simp at hi; subst hi
      exact ⟨_, o, hat, heap_alloc_at w o, ho.mono hle⟩
    · simp only [e, if_false] at hi
      obtain ⟨L, o', h1, h2, h3⟩ := h.obj i a' hi hd
      exact ⟨L, o', hle _ _ h1, heap_alloc_lt w o h2, h3.mono hle⟩
  · intro i a' L hi ho' hL
    rw [hget] at hi
    by_cases e : i = k
    · subst e
      rw [hat] at hL; cases hL
      refine ⟨fun hk => Nat.lt_irrefl _ (h.base _ hk), fun j a'' L' hj hd hL' hb => ?_⟩
      rw [hget] at hj
      by_cases e' : j = i
      · exact e'
      · simp only [e', if_false] at hj
        simp only [Ren.ext, e', if_false] at hL'
        have := obj_lt (h := h) hj hd hL'
        simp at hb; omega
    · simp only [e, if_false] at hi
      simp only [Ren.ext, e, if_false] at hL
      obtain ⟨h1, h2⟩ := h.own i a' L hi ho' hL
      have hnd : a' ≠ .dead := by intro e; subst e; simp [AO.own] at ho'
      refine ⟨h1, fun j a'' L' hj hd hL' hb => ?_⟩
      rw [hget] at hj
      by_cases e' : j = k
      · subst e'
        rw [hat] at hL'; cases hL'
        have := obj_lt (h := h) hi hnd hL
        simp at hb; omega
      · simp only [e', if_false] at hj
        simp only [Ren.ext, e', if_false] at hL'
        exact h2 j a'' L' hj hd hL' hb
  · intro i L hL
    show i < st.next
    by_cases e : i = k
    · omega
    · simp only [Ren.ext, e, if_false] at hL
      exact h.dom i L hL
  · intro i a' hi
    show i < st.next
    rw [hget] at hi
    by_cases e : i = k
    · omega
    · simp only [e, if_false] at hi
      exact h.hdom i a' hi
  · intro i a' L hi hd hno hL
    rw [hget] at hi
    by_cases e : i = k
    · subst e
      simp only [if_true, Option.some.injEq] at hi; subst hi
      rw [hown] at hno; cases hno
    · simp only [e, if_false] at hi
      simp only [Ren.ext, e, if_false] at hL
      exact h.ro i a' L hi hd hno hL

/-- the blocks of some objects -/
def Blk (ι : Ren) (X : Nat → Bool) (b : Nat) : Prop := ∃ j L, X j = true ∧ ι j = some L ∧ L.b = b

/-- some of the own objects are laid aside: their blocks are shut -/
theorem SR.split {T F : ASt} (h : SR B w0 ι T w) (X : Nat → Bool) (hX : ∀ j, X j = true → ∃ a, T.h.get j = some a ∧ a.own = true) (hn : F.next = T.next)
    (hg : ∀ j, F.h.get j = if X j then none else T.h.get j) : SR ⟨B.ro, fun b => B.ex b ∨ Blk ι X b, B.rs⟩ w ι F w := by
  have live : ∀ {a : AO}, a.own = true → a ≠ .dead := fun ha e => by subst e; simp [AO.own] at ha
  have get : ∀ {j a}, F.h.get j = some a → X j = false ∧ T.h.get j = some a := fun {j a} hj => by
    rw [hg] at hj
    cases hx : X j with
    | true => rw [hx] at hj; simp at hj
    | false => rw [hx] at hj; exact ⟨rfl, by simpa using hj⟩
  refine ⟨Keeps.refl _ _, ?_, ?_, ?_, ?_, ?_, ?_, ?_, fun g cs hg => ⟨(h.glob g cs hg).1.elim (fun q => .inl q) (fun q => .inr (.inl q)), h.globw g cs hg⟩⟩
  · rintro b (hb | hb | ⟨j, L, hx, hL, rfl⟩)
    · exact h.base b (.inl hb)
    · exact h.base b (.inr hb)
    · obtain ⟨a, ha, ho⟩ := hX j hx
      exact obj_lt (h := h) ha (live ho) hL
  · intro i a hi hd
    exact h.obj i a (get hi).2 hd
  · intro i a L hi ho hL
    obtain ⟨hx, hi'⟩ := get hi
    obtain ⟨h1, h2⟩ := h.own i a L hi' ho hL
    refine ⟨?_, fun j a' L' hj hd hL' hb => h2 j a' L' (get hj).2 hd hL' hb⟩
    rintro (hb | hb | ⟨j, L', hx', hL', hb⟩)
    · exact h1 (.inl hb)
    · exact h1 (.inr hb)
    · obtain ⟨a', ha', ho'⟩ := hX j hx'
      have := h2 j a' L' ha' (live ho') hL' hb
      subst this; rw [hx] at hx'; cases hx'
  · intro i L hL; rw [hn]; exact h.dom i L hL
  · intro i a hi; rw [hn]; exact h.hdom i a (get hi).2
  · intro i a L hi hd ho hL; exact h.ro i a L (get hi).2 hd ho hL
  · intro i hi; rw [hn]; exact h.res i hi

/-- and are taken back -/
theorem SR.merge {T F' T' : ASt} {ι' : Ren} {w' : World} (h : SR B w0 ι T w) (X : Nat → Bool) (hX : ∀ j, X j = true → ∃ a, T.h.get j = some a ∧ a.own = true)
    (h' : SR ⟨B.ro, fun b => B.ex b ∨ Blk ι X b, B.rs⟩ w ι' F' w') (hle : ι.le ι') (hn : T'.next = F'.next) (hg : ∀ j, T'.h.get j = if X j then T.h.get j else F'.h.get j) : SR B w0 ι' T' w' := by
  have live : ∀ {a : AO}, a.own = true → a ≠ .dead := fun ha e => by subst e; simp [AO.own] at ha
  have hB : ∀ b, B.all b → (⟨B.ro, fun b => B.ex b ∨ Blk ι X b, B.rs⟩ : Prot).all b := fun b hb => by
    rcases hb with hb | hb
    · exact .inl hb
    · exact .inr (.inl hb)
  have hXB : ∀ {j L}, X j = true → ι j = some L → (⟨B.ro, fun b => B.ex b ∨ Blk ι X b, B.rs⟩ : Prot).all L.b := fun {j L} hx hL => .inr (.inr ⟨j, L, hx, hL, rfl⟩)
  -- what is laid aside is where it was
  have old : ∀ {j a L}, X j = true → T'.h.get j = some a → ι' j = some L → T.h.get j = some a ∧ a.own = true ∧ ι j = some L := fun {j a L} hx hj hL => by
    rw [hg, hx, if_pos rfl] at hj
    obtain ⟨a', ha', ho⟩ := hX j hx
    rw [hj] at ha'; cases ha'
    obtain ⟨L0, _, h1, _, _⟩ := h.obj j a hj (live ho)
    have := hle _ _ h1
    rw [hL] at this; cases this
    exact ⟨hj, ho, h1⟩
  have new : ∀ {j a}, X j = false → T'.h.get j = some a → F'.h.get j = some a := fun {j a} hx hj => by rw [hg, hx] at hj; simpa using hj
  refine ⟨h.below.trans ⟨h'.below.os, h'.below.tape, h'.below.output, h'.below.size, fun k hk => h'.below.block k (hB k hk)⟩, fun k hk => h'.base k (hB k hk), ?_, ?_, ?_, ?_, ?_, ?_, h.glob⟩
  · intro i a hi hd
    cases hx : X i with
    | true =>
      have hi2 := hi
      rw [hg, hx, if_pos rfl] at hi2
      obtain ⟨L, o, h1, h2, h3⟩ := h.obj i a hi2 hd
      refine ⟨L, o, hle _ _ h1, ?_, h3.mono hle⟩
      rw [h'.below.block _ (hXB hx h1)]; exact h2
    | false => exact h'.obj i a (new hx hi) hd
  · intro i a L hi ho hL
    cases hx : X i with
    | true =>
      obtain ⟨h1, _, h3⟩ := old hx hi hL
      obtain ⟨k1, k2⟩ := h.own i a L h1 ho h3
      refine ⟨k1, fun j a' L' hj hd hL' hb => ?_⟩
      cases hxj : X j with
      | true => obtain ⟨q1, _, q3⟩ := old hxj hj hL'; exact k2 j a' L' q1 hd q3 hb
      | false =>
        have hj' := new hxj hj
        cases hoj : a'.own with
        | true => exact absurd (by rw [hb]; exact hXB hx h3) (h'.own j a' L' hj' hoj hL').1
        | false =>
          have := h'.ro j a' L' hj' hd hoj hL'
          rw [hb] at this
          exact absurd (.inl this) k1
    | false =>
      have hi' := new hx hi
      obtain ⟨k1, k2⟩ := h'.own i a L hi' ho hL
      refine ⟨fun hk => k1 (hB _ hk), fun j a' L' hj hd hL' hb => ?_⟩
      cases hxj : X j with
      | true =>
        obtain ⟨_, _, q3⟩ := old hxj hj hL'
        exact absurd (by rw [← hb]; exact hXB hxj q3) k1
      | false => exact k2 j a' L' (new hxj hj) hd hL' hb
  · intro i L hL; rw [hn]; exact h'.dom i L hL
  · intro i a hi
    rw [hn]
    cases hx : X i with
    | true =>
      have hi2 := hi
      rw [hg, hx, if_pos rfl] at hi2
      obtain ⟨a', ha', ho⟩ := hX i hx
      rw [hi2] at ha'; cases ha'
      obtain ⟨L, _, h1, _, _⟩ := h.obj i a hi2 (live ho)
      exact h'.dom i L (hle _ _ h1)
    | false => exact h'.hdom i a (new hx hi)
  · intro i a L hi hd ho hL
    cases hx : X i with
    | true => obtain ⟨_, h2, _⟩ := old hx hi hL; rw [ho] at h2; cases h2
    | false => exact h'.ro i a L (new hx hi) hd ho hL
  · intro i hi; rw [hn]; exact h'.res i hi
end

/-! ### Operations that only make -/
inductive Sh where
  | ptr
  | sl (l : Nat) (c : Cap)
  | mp

def Sh.val : Sh → Nat → AV
  | .ptr, k => .ptr (some (k, 0))
  | .sl l c, k => .slice (some (k, 0)) l c
  | .mp, k => .map (some k)

def mkBox (v : AV) : Option (AO × Sh) :=
  match v with
  | .tuple _ => none
  | .any => none
  | .agg l => some (.cells l true, .ptr)
  | v => some (.cells [v] true, .ptr)

def mkSlice (E : Env) (t : TypeId) (len : Nat) (parts : List (Nat × AV)) : Option (AO × Sh) :=
  match E.ty.get t with
  | none => none
  | some ti =>
    match ti.desc with
    | .slice e =>
      match E.ty.get e with
      | none => none
      | some ei =>
        match ei.zero with
        | none => none
        | some z =>
          match z with
          | .tuple _ => none
          | .any => none
          | _ =>
            bif Nat.beq (cellsOf z).length ei.size then
              bif Nat.ble (len * ei.size) 16777216 then
                match aFill (fun i => some (i * ei.size, ei.size)) (repL (cellsOf z) len) parts with
                | some cs => some (.cells cs true, .sl len (.known len))
                | none => none
              else none
            else none
    | _ => none

def mkMake (E : Env) (t : TypeId) (len cap : AV) : Option (AO × Sh) :=
  match E.ty.get t with
  | none => none
  | some ti =>
    match ti.desc with
    | .slice e =>
      match E.ty.get e with
      | none => none
      | some ei =>
        match asN len with
        | none => none
        | some l =>
          match asN cap with
          | none => none
          | some c =>
            match ei.zero with
            | none => none
            | some z =>
              bif Nat.ble (ei.bytes * c) 281474976710656 then
                bif Nat.ble l c then
                  bif Nat.blt c 9223372036854775808 then
                    match z with
                    | .tuple _ => none
                    | .any => none
                    | _ => bif Nat.beq (cellsOf z).length ei.size then some (.cells (repL (cellsOf z) c) true, .sl l (.known c)) else none
                  else none
                else none
              else none
    | _ => none

def mkConv (E : Env) (src dst : TypeId) (x : AV) : Option (AO × Sh) :=
  match E.ty.get dst with
  | none => none
  | some td =>
    match E.ty.get src with
    | none => none
    | some _ =>
    match td.desc with
    | .slice e =>
      match x with
      | .str l =>
        match E.ty.get e with
        | some te =>
          match te.desc with
          | .int .u8 => some (.cells (ofBytes l) true, .sl l.length (.rest 1))
          | _ => none
        | none => none
      | _ => none
    | _ => none

def aFree (E : Env) (o : Oper) (fr : AFr) : Option (AO × Sh) :=
  match o.op with
  | .alloc t => match E.ty.get t with | some ti => (match ti.zero with | some z => mkBox z | none => none) | none => none
  | .box _ x => match evA fr x with | some v => mkBox v | none => none
  | .buildSlice t n ps => match evP fr ps.toList with | some l => mkSlice E t n l | none => none
  | .makeMap _ rs => match rs with | none => some (.map [] 0, .mp) | some _ => none
  | .makeSlice t l c =>
    match evA fr l with
    | some a => match evA fr c with | some b => mkMake E t a b | none => none
    | none => none
  | .convert s d x => match evA fr x with | some a => mkConv E s d a | none => none
  | _ => none

def isFree (E : Env) (o : Oper) : Bool :=
  match o.guard with
  | some _ => false
  | none =>
  match o.op with
  | .alloc _ | .box .. | .buildSlice .. | .makeSlice .. => true
  | .makeMap _ rs => match rs with | none => true | some _ => false
  | .convert s d _ => match E.ty.get d with | some td => (match td.desc with | .slice _ => (match E.ty.get s with | some ts => (match ts.desc with | .string => true | _ => false) | none => false) | _ => false) | none => false
  | _ => false

theorem isFree_guard {E : Env} {o : Oper} (h : isFree E o = true) : o.guard = none := by
  unfold isFree at h
  split at h
  · simp at h
  · assumption

/-- an operation that makes one new object, and nothing else -/
def Made (P : Program) (ι : Ren) (w : World) (s : Sem Value) (a : AO) (h : Sh) : Prop :=
  a.own = true ∧ ∃ v ob tot n, s.run P w = .ok v (({ w with drawn := n } : World).alloc ob) ∧ OR ι ⟨w.heap.size, 0, tot⟩ a ob ∧ ∀ κ k, κ k = some ⟨w.heap.size, 0, tot⟩ → VR κ (h.val k) v

section
variable {P : Program} {E : Env} {ι : Ren} {w : World} {fr : AFr} {a : Act}

theorem row_OR {b : Nat} {l : List AV} {r : Array Value} (elem : TypeId) (hv : VRs ι l r) (hc : ∀ v, v ∈ l → v.isCell = true) : OR ι ⟨b, 0, r.size⟩ (.cells l true) (.cells r elem) :=
  ⟨r, elem, 0, 0, rfl, rfl, by simp [hv.size], hc, fun k v v' a b => hv.at_ k v v' a (by simpa using b), fun _ => .inl rfl⟩

theorem run_newRow (elem : TypeId) (r : Array Value) : (newRow elem r).run P w = .ok ⟨w.heap.size, 0, none⟩ (w.alloc (.cells r elem)) := rfl

theorem drawn_self (w : World) : ({ w with drawn := w.drawn } : World) = w := rfl

theorem mkBox_ok {v : AV} {v' : Value} {x : AO × Sh} (elem : TypeId) (hv : VR ι v v') (hr : mkBox v = some x) : Made P ι w (Instr.box elem v') x.1 x.2 := by
  have fin : ((∃ l, v = .agg l) ∨ v.isCell = true) → x = (.cells (cellsOf v) true, .ptr) → Made P ι w (Instr.box elem v') x.1 x.2 := by
    intro hc he
    obtain ⟨hv1, hv2⟩ := hv.cells hc
    subst he
    refine ⟨rfl, .pointer (some ⟨w.heap.size, 0, none⟩), .cells v'.cells elem, v'.cells.size, w.drawn, ?_, row_OR elem hv1 hv2, fun κ k hk => ?_⟩
    · simp only [Instr.box, newVar, Sem.run_bind, run_newRow, Result.andThen_ok, Sem.run_pure]
    · exact VR.ptr k 0 _ hk
  cases v <;> simp only [mkBox, Option.some.injEq, reduceCtorEq] at hr <;> first
    | exact fin (.inr rfl) hr.symm
    | exact fin (.inl ⟨_, rfl⟩) hr.symm

theorem mkSlice_ok (hE : E.Ok P) {t : TypeId} {n : Nat} {parts : List (Nat × AV)} {parts' : Array (Nat × Value)} {x : AO × Sh} (hm : parts.map (·.1) = parts'.toList.map (·.1))
    (hv : ∀ (k : Nat) p p', parts[k]? = some p → parts'.toList[k]? = some p' → VR ι p.2 p'.2) (hr : mkSlice E t n parts = some x) :
    Made P ι w (Instr.buildSlice t n parts') x.1 x.2 := by
  simp only [mkSlice] at hr
  split at hr
  · simp at hr
  rename_i ti hti
  have hk := (mkTI_ok (hE.ty _ _ hti)).run_und w
  split at hr
  rotate_left
  · simp at hr
  rename_i e hd
  rw [hd] at hk
  split at hr
  · simp at hr
  rename_i ei hei
  split at hr
  · simp at hr
  rename_i z hz
  have fin : ((∀ vs, z ≠ .tuple vs) ∧ z ≠ .any) → (bif Nat.beq (cellsOf z).length ei.size then
              bif Nat.ble (n * ei.size) 16777216 then
                match aFill (fun i => some (i * ei.size, ei.size)) (repL (cellsOf z) n) parts with
                | some cs => some (AO.cells cs true, Sh.sl n (.known n))
                | none => none
              else none
            else none) = some x → Made P ι w (Instr.buildSlice t n parts') x.1 x.2 := by
    clear hr
    intro hnt hr
    cases hbz : Nat.beq (cellsOf z).length ei.size
    · simp only [hbz, cond_false, reduceCtorEq] at hr
    cases hble : Nat.ble (n * ei.size) 16777216
    · simp only [hbz, hble, cond_true, cond_false, reduceCtorEq] at hr
    simp only [hbz, hble, cond_true] at hr
    have hsz := Nat.eq_of_beq_eq_true hbz
    have hle := ble_le hble
    split at hr
    · rename_i cs hcs
      simp only [Option.some.injEq] at hr; subst hr
      obtain ⟨zv, k7, hzv2, hzv3⟩ := zero_cells2 hE hei hz hnt
      have hzs : zv.cells.size = ei.size := by rw [← (hzv2 ι).size, hsz]
      have hs := (mkTI_ok (hE.ty _ _ hei)).run_size w
      obtain ⟨cs', f1, f2, f3⟩ := aFill_ok (place' := fun i => some (i * ei.size, ei.size)) (fun i x hx => hx) parts parts'.toList (repL (cellsOf z) n) cs _ hm hv (repL_VRs (hzv2 ι) n) (repL_cell hzv3 n) hcs
      refine ⟨rfl, .slice (some ⟨w.heap.size, 0, none⟩) n n, .cells cs' e, cs'.size, w.drawn, ?_, row_OR e f2 f3, fun κ k hk => .slice _ _ _ _ _ _ hk rfl (Nat.le_refl _)⟩
      have hle' : ¬ (n * ei.size > 2 ^ 24) := by rw [pow_vals.2]; omega
      rw [hzs] at f1
      by_cases h0 : n * ei.size = 0
      · rw [h0] at f1
        have er : Array.range 0 = #[] := rfl
        have hle0 : ¬ ((0 : Nat) > 2 ^ 24) := by decide
        simp only [er, Array.map_empty] at f1
        simp only [Instr.buildSlice, Sem.run_bind, hk, Result.andThen_ok, hs, Sem.run_ite, hle0, if_false, h0, if_true, Sem.run_pure, er, Array.map_empty, f1, run_newRow]
      · simp only [Instr.buildSlice, Sem.run_bind, hk, Result.andThen_ok, hs, Sem.run_ite, hle', if_false, h0, Sem.run_pure, k7, hzs, f1, run_newRow]
    · simp at hr
  cases z <;> first | (simp at hr; done) | exact fin ⟨by simp, by simp⟩ hr

theorem mkMake_ok (hE : E.Ok P) {t : TypeId} {len cap : AV} {len' cap' : Value} {x : AO × Sh} (hl : VR ι len len') (hc : VR ι cap cap')
    (hr : mkMake E t len cap = some x) : Made P ι w (Instr.makeSlice t len' cap') x.1 x.2 := by
  simp only [mkMake] at hr
  split at hr
  · simp at hr
  rename_i ti hti
  have hk := (mkTI_ok (hE.ty _ _ hti)).run_und w
  split at hr
  · rename_i e hd
    rw [hd] at hk
    split at hr
    · simp at hr
    rename_i ei hei
    split at hr
    · simp at hr
    rename_i l hl'
    split at hr
    · simp at hr
    rename_i c hc'
    split at hr
    · simp at hr
    rename_i z hz
    obtain ⟨kl, rfl⟩ := asN_ok hl hl'
    obtain ⟨kc, rfl⟩ := asN_ok hc hc'
    cases h1 : Nat.ble (ei.bytes * c) 281474976710656
    · simp only [h1, cond_false, reduceCtorEq] at hr
    cases h2 : Nat.ble l c
    · simp only [h1, h2, cond_true, cond_false, reduceCtorEq] at hr
    cases h3 : Nat.blt c 9223372036854775808
    · simp only [h1, h2, h3, cond_true, cond_false, reduceCtorEq] at hr
    simp only [h1, h2, h3, cond_true] at hr
    have g1 := ble_le h1
    have g2 := ble_le h2
    have g3 : c < 9223372036854775808 := by rw [← Nat.blt_eq]; exact h3
    have fin : ((∀ vs, z ≠ .tuple vs) ∧ z ≠ .any) → (bif Nat.beq (cellsOf z).length ei.size then some (AO.cells (repL (cellsOf z) c) true, Sh.sl l (.known c)) else none) = some x →
        Made P ι w (Instr.makeSlice t (.int kl (l : Int)) (.int kc (c : Int))) x.1 x.2 := by
      intro hnt hr
      cases hb : Nat.beq (cellsOf z).length ei.size
      · simp only [hb, cond_false, reduceCtorEq] at hr
      simp only [hb, cond_true, Option.some.injEq] at hr
      have hsz := Nat.eq_of_beq_eq_true hb
      obtain ⟨v, hv1, hv2, hv3⟩ := zero_cells hE hei hz hnt w
      obtain ⟨i, hi1, hi2, hi3⟩ := (mkTI_ok (hE.ty _ _ hei)).run_info w
      have hvs : v.cells.size = ei.size := by rw [← (hv2 ι).size, hsz]
      let zr : Array Value := if c * ei.size = 0 then #[] else v.cells
      have hrow : ((Array.range (c * ei.size)).map (zr[· % zr.size]!)) = ((Array.range (c * v.cells.size)).map (v.cells[· % v.cells.size]!)) := by
        rw [hvs]
        by_cases h0 : c * ei.size = 0
        · rw [h0]; simp
        · simp only [zr, h0, if_false, hvs]
      have q0 := row_OR (b := w.heap.size) e (repL_VRs (hv2 ι) c) (repL_cell hv3 c)
      subst hr
      refine ⟨rfl, .slice (some ⟨w.heap.size, 0, none⟩) l c, .cells ((Array.range (c * v.cells.size)).map (v.cells[· % v.cells.size]!)) e, _, w.drawn, ?_, q0, fun κ k hk => .slice _ _ _ _ _ _ hk rfl g2⟩
      have w1 := wrap64_small g3
      have w2 : IntKind.i64.wrap (l : Int) = (l : Int) := wrap64_small (by omega)
      have hb1 : ((i.bytes : Int) * (c : Int) > 281474976710656) = False := by
        rw [hi2]; have : ((ei.bytes * c : Nat) : Int) = (ei.bytes : Int) * (c : Int) := by simp
        rw [← this]; simp; omega
      have hs := (mkTI_ok (hE.ty _ _ hei)).run_size w
      have hlt0 : ¬ ((c : Int) < 0) := by omega
      have hlt1 : ¬ ((l : Int) < 0) := by omega
      have hlt2 : ¬ ((l : Int) > (c : Int)) := by omega
      by_cases h0 : c * ei.size = 0
      · simp only [zr, h0, if_true] at hrow
        rw [← hrow]
        simp only [Instr.makeSlice, asInt, asIntOf, Sem.run_bind, hk, Sem.run_pure, Result.andThen_ok, hi1, w1, w2, pow_vals.1, hb1, decide_false, Bool.or_false, hlt0, hlt1, hlt2, Bool.false_eq_true,
          if_false, run_askRoom, hs, Int.toNat_natCast, h0, if_true, run_newRow]
      · simp only [zr, h0, if_false] at hrow
        rw [← hrow]
        simp only [Instr.makeSlice, asInt, asIntOf, Sem.run_bind, hk, Sem.run_pure, Result.andThen_ok, hi1, w1, w2, pow_vals.1, hb1, decide_false, Bool.or_false, hlt0, hlt1, hlt2, Bool.false_eq_true,
          if_false, run_askRoom, hs, Int.toNat_natCast, h0, hv1, run_newRow]
    cases z <;> first | (simp at hr; done) | exact fin ⟨by simp, by simp⟩ hr
  · simp at hr
end
end
end Go.Ax
