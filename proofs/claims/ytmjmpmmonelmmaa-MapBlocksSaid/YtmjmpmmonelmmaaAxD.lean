/-
  OWN WORK, TOLD ONCE FOR ALL TEXTS YtmjmpmmonelmmaaAxA TO YtmjmpmmonelmmaaAxU: an abstract machine for the program's text that the kernel can run, and the proof that it is sound: what it answers is what the program answers. No condition.
-/
import Derived.Test.YtmjmpmmonelmmaaAxC
import Derived.ChangeKeysEq
namespace Go.Ax
noncomputable section
open Go.RowKit

/-! ### Types -/
structure TI where
  desc : TypeDesc
  size : Nat
  bytes : Nat
  zero : Option AV
  held : Bool
  guard : Bool
  fl : List (TypeId × Nat)

def fldsOf : TypeDesc → List (TypeId × Nat)
  | .struct fs => (fs.toList.filter fun f => f.name ≠ "_").map fun f => (f.type, f.offset)
  | _ => []

def mkTI (P : Program) (t : TypeId) : Option TI :=
  match P.info? t with
  | some i =>
    match P.underlying t with
    | some d => some { desc := d, size := i.size, bytes := i.bytes, zero := match i.zero with | some z => ofValue z | none => none, held := P.stoodInHeld t, guard := P.eqGuardType P.depth t, fl := fldsOf d }
    | none => none
  | none => none

structure Env where
  ty : T TI
  fn : T Func
  ex : T (List AV → Option AV)

structure Env.Ok (P : Program) (E : Env) : Prop where
  ty : ∀ t ti, E.ty.get t = some ti → mkTI P t = some ti
  fn : ∀ f fn, E.fn.get f = some fn → P.funcs[f]? = some fn
  call : ∀ f fn, E.fn.get f = some fn → ∀ args w, (callFunc f args).run P w = .ok (.enter f args) w
  ex : ∀ f g, E.ex.get f = some g → ∀ ι args args' v w, GlobOK w → g args = some v → args.length = args'.size → (∀ (i : Nat) x x', args[i]? = some x → args'[i]? = some x' → VR ι x x') →
    (∃ v', (callFunc f args').run P w = .ok (.value v') w ∧ VR ι v v') ∨
    ((callFunc f args').run P w = .ok (.enter f args') w ∧ CallsIn Fence.wide 0 P f args' w fun e w' => ∃ x, e = .returned x ∧ VR ι v x ∧ Keeps (fun k => k < w.heap.size) w w')
  mixed : P.follows .mixedOrders = true

structure TIok (P : Program) (t : TypeId) (ti : TI) : Prop where
  und : P.underlying t = some ti.desc
  held : P.stoodInHeld t = ti.held
  guard : P.eqGuardType P.depth t = ti.guard
  fl : ti.fl = fldsOf ti.desc
  inf : ∃ i, P.info? t = some i ∧ i.size = ti.size ∧ i.bytes = ti.bytes ∧ (∀ z, ti.zero = some z → ∃ v, i.zero = some v ∧ ∀ ι, VR ι z v)

theorem mkTI_ok {P : Program} {t : TypeId} {ti : TI} (h : mkTI P t = some ti) : TIok P t ti := by
  unfold mkTI at h
  split at h
  · rename_i i hi
    split at h
    · rename_i d hd
      simp only [Option.some.injEq] at h
      subst h
      refine ⟨hd, rfl, rfl, rfl, i, hi, rfl, rfl, fun z hz => ?_⟩
      simp only at hz
      split at hz
      · rename_i v hv; exact ⟨v, hv, fun ι => ofValue_ok hz⟩
      · simp at hz
    · simp at h
  · simp at h

def isAggD : TypeDesc → Bool
  | .struct _ => true
  | .array _ _ => true
  | _ => false

section
variable {P : Program} {t : TypeId} {ti : TI}
theorem TIok.run_und (h : TIok P t ti) (w : World) : (underlying t).run P w = .ok ti.desc w := run_underlying h.und w
theorem TIok.run_size (h : TIok P t ti) (w : World) : (sizeOf t).run P w = .ok ti.size w := by
  obtain ⟨i, hi, h1, _⟩ := h.inf
  rw [run_sizeOf w hi]; simp [Program.cellsOf, hi, h1]
theorem TIok.run_info (h : TIok P t ti) (w : World) : ∃ i, (typeInfo t).run P w = .ok i w ∧ i.bytes = ti.bytes ∧ i.size = ti.size := by
  obtain ⟨i, hi, h1, h2, _⟩ := h.inf
  exact ⟨i, run_typeInfo w hi, h2, h1⟩
theorem TIok.run_zero (h : TIok P t ti) {z : AV} (hz : ti.zero = some z) (w : World) : ∃ v, (zeroValue t).run P w = .ok v w ∧ ∀ ι, VR ι z v := by
  obtain ⟨i, hi, _, _, h3⟩ := h.inf
  obtain ⟨v, hv, hr⟩ := h3 z hz
  refine ⟨v, ?_, hr⟩
  simp only [zeroValue, Sem.run_bind, run_typeInfo w hi, Result.andThen_ok, hv, Sem.run_pure]
theorem TIok.run_isAgg (h : TIok P t ti) (w : World) : (isAgg t).run P w = .ok (isAggD ti.desc) w := by
  simp only [isAgg, Sem.run_bind, h.run_und w, Result.andThen_ok]
  cases ti.desc <;> rfl
end

/-- what an operation on memory may come to -/
def Did (P : Program) (B : Prot) (w0 : World) (ι : Ren) (w : World) (s : Sem Value) (r : AV × ASt) : Prop :=
  ∃ ι' v w', s.run P w = .ok v w' ∧ ι.le ι' ∧ SR B w0 ι' r.2 w' ∧ VR ι' r.1 v

def cellsOf : AV → List AV
  | .agg cs => cs
  | v => [v]

/-! ### load, store -/
def aLoad (E : Env) (t : TypeId) (a : AV) (st : ASt) : Option (AV × ASt) :=
  match a with
  | .ptr (some (i, o)) =>
    match st.h.get i with
    | some (.cells cs _) =>
      match E.ty.get t with
      | some ti =>
        bif isAggD ti.desc then
          match takeL cs o ti.size with
          | some l => some (.agg l, st)
          | none => none
        else
          match cs[o]? with
          | some v => some (v, st)
          | none => none
      | none => none
    | _ => none
  | .gptr g o =>
    match glV g with
    | some cs =>
      match E.ty.get t with
      | some ti =>
        bif isAggD ti.desc then
          match takeL cs o ti.size with
          | some l => some (.agg l, st)
          | none => none
        else
          match cs[o]? with
          | some v => some (v, st)
          | none => none
      | none => none
    | none => none
  | _ => none

def aStore (E : Env) (t : TypeId) (a v : AV) (st : ASt) : Option ASt :=
  match a with
  | .ptr (some (i, o)) =>
    match st.h.get i with
    | some (.cells cs true) =>
      match E.ty.get t with
      | some ti =>
        match v with
        | .agg l =>
          bif Nat.beq l.length ti.size then
            match setL cs o l with
            | some cs' => some (st.put i (.cells cs' true))
            | none => none
          else none
        | .tuple _ => none
        | .any => none
        | v =>
          bif Nat.beq 1 ti.size then
            match setL cs o [v] with
            | some cs' => some (st.put i (.cells cs' true))
            | none => none
          else none
      | none => none
    | _ => none
  | _ => none

section
variable {P : Program} {E : Env} {B : Prot} {w0 : World} {ι : Ren} {st : ASt} {w : World}

theorem aLoad_var (hE : E.Ok P) (h : SR B w0 ι st w) {t : TypeId} {i o : Nat} {L : Loc} {r : AV × ASt} (hL : ι i = some L)
    (hr : aLoad E t (.ptr (some (i, o))) st = some r) : ∃ v, (loadVar t ⟨L.b, L.p + o, none⟩).run P w = .ok v w ∧ VR ι r.1 v ∧ r.2 = st := by
  simp only [aLoad] at hr
  split at hr
  · rename_i cs rw hi
    split at hr
    · rename_i ti hti
      have hk := mkTI_ok (hE.ty _ _ hti)
      cases hb : isAggD ti.desc
      · simp only [hb, cond_false] at hr
        split at hr
        · rename_i v hv
          simp only [Option.some.injEq] at hr; subst hr
          obtain ⟨v', h1, h2, _⟩ := h.cell hi hv hL
          refine ⟨v', ?_, h2, rfl⟩
          simp only [loadVar, Sem.run_bind, hk.run_isAgg w, Result.andThen_ok, hb]
          exact run_load_of h1
        · simp at hr
      · simp only [hb, cond_true] at hr
        split at hr
        · rename_i l hl
          simp only [Option.some.injEq] at hr; subst hr
          obtain ⟨r, h1, h2, h3⟩ := h.loadCells (P := P) hi hl hL
          refine ⟨.agg r, ?_, .agg l r h2.size h3 h2.at_, rfl⟩
          simp only [loadVar, Sem.run_bind, hk.run_isAgg w, Result.andThen_ok, hb, if_true, hk.run_size w, h1, Sem.run_pure]
        · simp at hr
    · simp at hr
  · simp at hr

theorem SR.globCell (h : SR B w0 ι st w) {g : Nat} {cs : List AV} (hg : glV g = some cs) {k : Nat} {v : AV} (hv : cs[k]? = some v) : ∃ v', w.cell? ⟨g, k, none⟩ = some v' ∧ VR ι v v' := by
  obtain ⟨hc, c, e, m, h1, h2, h3⟩ := h.globw g cs hg
  have hk : k < cs.length := (List.getElem?_eq_some_iff.1 hv).1
  refine ⟨c[k]'(by omega), ?_, h3 k v _ hv (by simp) ι⟩
  simp [World.cell?, h1, show k < c.size by omega]

theorem SR.globCells (h : SR B w0 ι st w) {g : Nat} {cs : List AV} (hg : glV g = some cs) : ∀ {n o : Nat} {l : List AV}, takeL cs o n = some l →
    ∃ r, (Go.loadCells ⟨g, o, none⟩ n).run P w = .ok r w ∧ VRs ι l r ∧ ∀ v, v ∈ l → v.isCell = true := by
  intro n o l hl
  obtain ⟨hlen, hget⟩ := takeL_ok hl
  have hcell := (h.globw g cs hg).cell
  have key : ∀ j, j < n → ∃ v v', cs[o + j]? = some v ∧ w.cell? ⟨g, o + j, none⟩ = some v' ∧ VR ι v v' ∧ v.isCell = true := fun j hj => by
    have hj' : j < l.length := by omega
    have e : cs[o + j]? = some l[j] := by rw [← hget j hj]; simp [hj']
    obtain ⟨v', h1, h2⟩ := h.globCell hg e
    exact ⟨_, v', e, h1, h2, hcell _ (List.mem_of_getElem? e)⟩
  have hf : ∃ f : Nat → Value, ∀ j, j < n → w.cell? ⟨g, o + j, none⟩ = some (f j) ∧ ∀ v, cs[o + j]? = some v → VR ι v (f j) := by
    refine ⟨fun j => (w.cell? ⟨g, o + j, none⟩).getD Go.undef, fun j hj => ?_⟩
    obtain ⟨v, v', h1, h2, h3, _⟩ := key j hj
    refine ⟨by simp [h2], fun x hx => ?_⟩
    rw [h1] at hx; cases hx
    simpa [h2] using h3
  obtain ⟨f, hf⟩ := hf
  refine ⟨((List.range n).map f).toArray, run_loadCells w _ n f (fun j hj => by rw [add_none]; exact (hf j hj).1), ⟨by simp [hlen], fun j v v' hv hv' => ?_⟩, fun v hv => ?_⟩
  · have hj : j < n := by have := (List.getElem?_eq_some_iff.1 hv).1; omega
    simp [hj] at hv'
    subst hv'
    exact (hf j hj).2 v (by rw [← hget j hj]; exact hv)
  · obtain ⟨j, hj, e⟩ := List.getElem_of_mem hv
    have hjn : j < n := by omega
    obtain ⟨x, _, h1, _, _, h4⟩ := key j hjn
    have := hget j hjn
    rw [h1] at this
    simp [hj] at this
    rw [← e, this]; exact h4

theorem aLoad_glob (hE : E.Ok P) (h : SR B w0 ι st w) {t : TypeId} {g o : Nat} {r : AV × ASt}
    (hr : aLoad E t (.gptr g o) st = some r) : ∃ v, (loadVar t ⟨g, o, none⟩).run P w = .ok v w ∧ VR ι r.1 v ∧ r.2 = st := by
  simp only [aLoad] at hr
  split at hr
  · rename_i cs hi
    split at hr
    · rename_i ti hti
      have hk := mkTI_ok (hE.ty _ _ hti)
      cases hb : isAggD ti.desc
      · simp only [hb, cond_false] at hr
        split at hr
        · rename_i v hv
          simp only [Option.some.injEq] at hr; subst hr
          obtain ⟨v', h1, h2⟩ := h.globCell hi hv
          refine ⟨v', ?_, h2, rfl⟩
          simp only [loadVar, Sem.run_bind, hk.run_isAgg w, Result.andThen_ok, hb]
          exact run_load_of h1
        · simp at hr
      · simp only [hb, cond_true] at hr
        split at hr
        · rename_i l hl
          simp only [Option.some.injEq] at hr; subst hr
          obtain ⟨r, h1, h2, h3⟩ := h.globCells (P := P) hi hl
          refine ⟨.agg r, ?_, .agg l r h2.size h3 h2.at_, rfl⟩
          simp only [loadVar, Sem.run_bind, hk.run_isAgg w, Result.andThen_ok, hb, if_true, hk.run_size w, h1, Sem.run_pure]
        · simp at hr
    · simp at hr
  · simp at hr

theorem aLoad_ok (hE : E.Ok P) (h : SR B w0 ι st w) {t : TypeId} {a : AV} {a' : Value} {r : AV × ASt} (ha : VR ι a a') (hr : aLoad E t a st = some r) :
    Did P B w0 ι w (Instr.loadAt t a') r := by
  cases ha with
  | ptr i o L hL =>
    obtain ⟨v, h1, h2, h3⟩ := aLoad_var hE h hL hr
    refine ⟨ι, v, w, ?_, ι.le_refl, by rw [h3]; exact h, h2⟩
    simp only [Instr.loadAt, Instr.sureAddr, Sem.run_bind, Sem.run_pure, Result.andThen_ok, h1]
  | gptr g o =>
    obtain ⟨v, h1, h2, h3⟩ := aLoad_glob hE h hr
    refine ⟨ι, v, w, ?_, ι.le_refl, by rw [h3]; exact h, h2⟩
    simp only [Instr.loadAt, Instr.sureAddr, Sem.run_bind, Sem.run_pure, Result.andThen_ok, h1]
  | _ => simp [aLoad] at hr

theorem setVar (hE : E.Ok P) (h : SR B w0 ι st w) {t : TypeId} {ti : TI} {i o : Nat} {L : Loc} {cs cs' l : List AV} {v : Value} (hti : E.ty.get t = some ti)
    (hi : st.h.get i = some (.cells cs true)) (hL : ι i = some L) (hn : l.length = ti.size) (hs : setL cs o l = some cs') (hv : VRs ι l v.cells)
    (hc : ∀ x, x ∈ l → x.isCell = true) :
    ∃ w', (storeVar t ⟨L.b, L.p + o, none⟩ v).run P w = .ok () w' ∧ SR B w0 ι (st.put i (.cells cs' true)) w' := by
  have hk := mkTI_ok (hE.ty _ _ hti)
  obtain ⟨w', h1, h2⟩ := SR.storeCells (P := P) l v.cells.toList 0 o cs cs' st w h hi hL (by simpa using hs) (by simpa using hv) hc
  refine ⟨w', ?_, h2⟩
  have hsz : v.cells.size = ti.size := by rw [← hv.size, hn]
  simp only [storeVar, Sem.run_bind, hk.run_size w, Result.andThen_ok, hsz, ne_eq, not_true_eq_false, if_false, h1]

theorem VR.cells {a : AV} {v : Value} (h : VR ι a v) (hc : (∃ l, a = .agg l) ∨ a.isCell = true) : VRs ι (cellsOf a) v.cells ∧ ∀ x, x ∈ cellsOf a → x.isCell = true := by
  have one : a.isCell = true → cellsOf a = [a] → VRs ι (cellsOf a) v.cells ∧ ∀ x, x ∈ cellsOf a → x.isCell = true := fun hc he => by
    obtain ⟨h1, _, _⟩ := h.cell_of hc
    rw [he, h1]
    refine ⟨⟨rfl, fun i x x' hx hx' => ?_⟩, by simpa using hc⟩
    cases i with
    | zero => simp at hx hx'; subst hx; subst hx'; exact h
    | succ i => simp at hx
  cases h with
  | agg cs cs' hs hc' h' => exact ⟨⟨hs, h'⟩, hc'⟩
  | tuple cs cs' hs h' => rcases hc with ⟨l, hl⟩ | hc
                          · simp at hl
                          · simp [AV.isCell] at hc
  | any v => rcases hc with ⟨l, hl⟩ | hc
             · simp at hl
             · simp [AV.isCell] at hc
  | _ => exact one rfl rfl

theorem aStore_ok (hE : E.Ok P) (h : SR B w0 ι st w) {t : TypeId} {a v : AV} {a' v' : Value} {st' : ASt} (ha : VR ι a a') (hv : VR ι v v')
    (hr : aStore E t a v st = some st') : ∃ w', (Instr.storeAt t a' v').run P w = .ok () w' ∧ SR B w0 ι st' w' := by
  have fin : ∀ (i o : Nat) (L : Loc) (ti : TI) (cs cs' : List AV), ι i = some L → E.ty.get t = some ti → st.h.get i = some (.cells cs true) →
      (cellsOf v).length = ti.size → setL cs o (cellsOf v) = some cs' → ((∃ l, v = .agg l) ∨ v.isCell = true) → st' = st.put i (.cells cs' true) →
      ∃ w', (Instr.storeAt t (.pointer (some ⟨L.b, L.p + o, none⟩)) v').run P w = .ok () w' ∧ SR B w0 ι st' w' := by
    intro i o L ti cs cs' hL hti hi hn hs hc he
    obtain ⟨hv1, hv2⟩ := hv.cells hc
    obtain ⟨w', h1, h2⟩ := setVar (P := P) hE h hti hi hL hn hs hv1 hv2
    refine ⟨w', ?_, he ▸ h2⟩
    simp only [Instr.storeAt, Instr.sureAddr, Sem.run_bind, Sem.run_pure, Result.andThen_ok, h1]
  cases ha with
  | ptr i o L hL =>
    simp only [aStore] at hr
    split at hr
    · rename_i cs hi
      split at hr
      · rename_i ti hti
        split at hr
        · rename_i l
          cases hb : Nat.beq l.length ti.size
          · simp only [hb, cond_false, reduceCtorEq] at hr
          · simp only [hb, cond_true] at hr
            split at hr
            · rename_i cs' hs
              simp only [Option.some.injEq] at hr
              exact fin i o L ti cs cs' hL hti hi (Nat.eq_of_beq_eq_true hb) hs (.inl ⟨l, rfl⟩) hr.symm
            · simp at hr
        · simp at hr
        · simp at hr
        · rename_i v0 hna hnt hny
          cases hb : Nat.beq 1 ti.size
          · simp only [hb, cond_false, reduceCtorEq] at hr
          · simp only [hb, cond_true] at hr
            split at hr
            · rename_i cs' hs
              simp only [Option.some.injEq] at hr
              have hcell : v.isCell = true := by cases v <;> simp_all [AV.isCell]
              have hco : cellsOf v = [v] := by cases v <;> simp_all [cellsOf]
              exact fin i o L ti cs cs' hL hti hi (by rw [hco]; exact Nat.eq_of_beq_eq_true hb) (by rw [hco]; exact hs) (.inr hcell) hr.symm
            · simp at hr
      · simp at hr
    · simp at hr
  | _ => simp [aStore] at hr

/-! ### new variables -/
def aBox (v : AV) (st : ASt) : Option (AV × ASt) :=
  match v with
  | .tuple _ => none
  | .any => none
  | .agg l => some (.ptr (some (st.next, 0)), st.add (.cells l true))
  | v => some (.ptr (some (st.next, 0)), st.add (.cells [v] true))

theorem newRow_ok (h : SR B w0 ι st w) {l : List AV} {r : Array Value} (elem : TypeId) (hv : VRs ι l r) (hc : ∀ v, v ∈ l → v.isCell = true) :
    ∃ ι', (newRow elem r).run P w = .ok ⟨w.heap.size, 0, none⟩ (w.alloc (.cells r elem)) ∧ ι.le ι' ∧ SR B w0 ι' (st.add (.cells l true)) (w.alloc (.cells r elem)) ∧
      ι' st.next = some ⟨w.heap.size, 0, r.size⟩ := by
  obtain ⟨h1, h2, h3⟩ := h.alloc (.cells l true) (.cells r elem) r.size
    ⟨r, elem, 0, 0, rfl, rfl, by simp [hv.size], hc, fun k v v' a b => hv.at_ k v v' a (by simpa using b), fun _ => .inl rfl⟩
  exact ⟨_, rfl, h2, h1, h3⟩

theorem aBox_ok (h : SR B w0 ι st w) {v : AV} {v' : Value} {r : AV × ASt} (elem : TypeId) (hv : VR ι v v') (hr : aBox v st = some r) :
    Did P B w0 ι w (Instr.box elem v') r := by
  have fin : ((∃ l, v = .agg l) ∨ v.isCell = true) → r = (.ptr (some (st.next, 0)), st.add (.cells (cellsOf v) true)) → Did P B w0 ι w (Instr.box elem v') r := by
    intro hc he
    obtain ⟨hv1, hv2⟩ := hv.cells hc
    obtain ⟨ι', h1, h2, h3, h4⟩ := newRow_ok (P := P) h elem hv1 hv2
    subst he
    refine ⟨ι', .pointer (some ⟨w.heap.size, 0, none⟩), _, ?_, h2, h3, ?_⟩
    · simp only [Instr.box, newVar, Sem.run_bind, h1, Result.andThen_ok, Sem.run_pure]
    · exact VR.ptr st.next 0 _ h4
  cases v <;> simp only [aBox, Option.some.injEq, reduceCtorEq] at hr <;> first
    | exact fin (.inr rfl) hr.symm
    | exact fin (.inl ⟨_, rfl⟩) hr.symm

def aAlloc (E : Env) (t : TypeId) (st : ASt) : Option (AV × ASt) :=
  match E.ty.get t with
  | some ti =>
    match ti.zero with
    | some z => aBox z st
    | none => none
  | none => none

theorem aAlloc_ok (hE : E.Ok P) (h : SR B w0 ι st w) {t : TypeId} {r : AV × ASt} (hr : aAlloc E t st = some r) :
    Did P B w0 ι w (Instr.alloc t true (.tuple #[])) r := by
  simp only [aAlloc] at hr
  split at hr
  · rename_i ti hti
    split at hr
    · rename_i z hz
      obtain ⟨v, h1, h2⟩ := (mkTI_ok (hE.ty _ _ hti)).run_zero hz w
      obtain ⟨ι', p, w', h3, h4⟩ := aBox_ok (P := P) h t (h2 ι) hr
      refine ⟨ι', p, w', ?_, h4⟩
      simp only [Instr.box, Sem.run_bind] at h3
      simp only [Instr.alloc, Sem.run_bind, h1, Result.andThen_ok]
      exact h3
    · simp at hr
  · simp at hr

/-! ### addresses -/
def aFieldAddr (E : Env) (s : TypeId) (x : AV) (f : Nat) : Option AV :=
  match x with
  | .ptr (some (i, o)) =>
    match E.ty.get s with
    | some ti =>
      match ti.desc with
      | .struct fs =>
        match fs[f]? with
        | some fd =>
          match E.ty.get fd.type with
          | some fi => bif Nat.beq fi.size 0 then none else some (.ptr (some (i, o + fd.offset)))
          | none => none
        | none => none
      | _ => none
    | none => none
  | _ => none

theorem aFieldAddr_ok (hE : E.Ok P) {s : TypeId} {x r : AV} {x' : Value} {f : Nat} (hx : VR ι x x') (hr : aFieldAddr E s x f = some r) :
    ∃ v, (Instr.fieldAt s x' f).run P w = .ok v w ∧ VR ι r v := by
  cases hx with
  | ptr i o L hL =>
    simp only [aFieldAddr] at hr
    split at hr
    · rename_i ti hti
      split at hr
      · rename_i fs hd
        split at hr
        · rename_i fd hf
          split at hr
          · rename_i fi hfi
            cases hb : Nat.beq fi.size 0
            · simp only [hb, cond_false, Option.some.injEq] at hr
              subst hr
              have hne : fi.size ≠ 0 := by intro e; rw [e] at hb; simp at hb
              refine ⟨.pointer (some ⟨L.b, L.p + (o + fd.offset), none⟩), ?_, .ptr i _ L hL⟩
              have h1 := (mkTI_ok (hE.ty _ _ hti)).run_und w
              have h2 := (mkTI_ok (hE.ty _ _ hfi)).run_size w
              rw [hd] at h1
              simp only [Instr.fieldAt, Sem.run_bind, h1, Result.andThen_ok, hf, Instr.sureAddr, Sem.run_pure, fieldPlace, h2, hne, if_false, add_none, Nat.add_assoc]
            · simp only [hb, cond_true, reduceCtorEq] at hr
          · simp at hr
        · simp at hr
      · simp at hr
    · simp at hr
  | _ => simp [aFieldAddr] at hr

/-- a part of an aggregate -/
def aPart (E : Env) (t : TypeId) (cs : List AV) (off : Nat) : Option AV :=
  match E.ty.get t with
  | some ti =>
    bif isAggD ti.desc then
      match takeL cs off ti.size with
      | some l => some (.agg l)
      | none => none
    else cs[off]?
  | none => none

theorem aPart_ok (hE : E.Ok P) {t : TypeId} {cs : List AV} {cs' : Array Value} {off : Nat} {r : AV} (hv : VRs ι cs cs') (hc : ∀ v, v ∈ cs → v.isCell = true)
    (hr : aPart E t cs off = some r) : ∃ v, (part t cs' off).run P w = .ok v w ∧ VR ι r v := by
  simp only [aPart] at hr
  split at hr
  · rename_i ti hti
    have hk := mkTI_ok (hE.ty _ _ hti)
    cases hb : isAggD ti.desc
    · simp only [hb, cond_false] at hr
      obtain ⟨v', h1, h2⟩ := hv.get hr
      exact ⟨v', by simp only [part, Sem.run_bind, hk.run_isAgg w, Result.andThen_ok, hb, Bool.false_eq_true, if_false, h1, Sem.run_pure], h2⟩
    · simp only [hb, cond_true] at hr
      split at hr
      · rename_i l hl
        simp only [Option.some.injEq] at hr
        subst hr
        obtain ⟨hn, hg⟩ := takeL_ok hl
        refine ⟨.agg (cs'.extract off (off + ti.size)), ?_, .agg _ _ ?_ ?_ ?_⟩
        · simp only [part, Sem.run_bind, hk.run_isAgg w, Result.andThen_ok, hb, if_true, hk.run_size w, Sem.run_pure]
        · have : ti.size = 0 ∨ off + ti.size ≤ cs.length := by
            by_cases h0 : ti.size = 0
            · exact .inl h0
            · right
              have := hg (ti.size - 1) (by omega)
              have h2 : l[ti.size - 1]? ≠ none := by simp; omega
              rw [this] at h2
              simp at h2; omega
          rw [hn, Array.size_extract, ← hv.size]; omega
        · intro x hx
          obtain ⟨j, hj, e⟩ := List.getElem_of_mem hx
          have := hg j (by omega)
          simp [hj] at this
          have hm := List.mem_of_getElem? this.symm
          rw [e] at hm; exact hc x hm
        · intro k x x' hx hx'
          have hk' : k < ti.size := by have := (List.getElem?_eq_some_iff.1 hx).1; omega
          rw [hg k hk'] at hx
          rw [Array.getElem?_extract] at hx'
          split at hx'
          · exact hv.at_ _ x x' hx hx'
          · simp at hx'
      · simp at hr
  · simp at hr

def aField (E : Env) (t : TypeId) (x : AV) (f : Nat) : Option AV :=
  match x with
  | .agg cs =>
    match E.ty.get t with
    | some ti =>
      match ti.desc with
      | .struct fs =>
        match fs[f]? with
        | some fd => aPart E fd.type cs fd.offset
        | none => none
      | _ => none
    | none => none
  | _ => none

theorem aField_ok (hE : E.Ok P) {t : TypeId} {x r : AV} {x' : Value} {f : Nat} (hx : VR ι x x') (hr : aField E t x f = some r) :
    ∃ v, (Instr.field t x' f).run P w = .ok v w ∧ VR ι r v := by
  cases hx with
  | agg cs cs' hs hc h' =>
    simp only [aField] at hr
    split at hr
    · rename_i ti hti
      split at hr
      · rename_i fs hd
        split at hr
        · rename_i fd hf
          obtain ⟨v, h1, h2⟩ := aPart_ok (P := P) (w := w) hE ⟨hs, h'⟩ hc hr
          refine ⟨v, ?_, h2⟩
          have h3 := (mkTI_ok (hE.ty _ _ hti)).run_und w
          rw [hd] at h3
          simp only [Instr.field, Sem.run_bind, h3, Result.andThen_ok, hf, asAgg, Sem.run_pure, h1]
        · simp at hr
      · simp at hr
    · simp at hr
  | _ => simp [aField] at hr

def aIndexAddr (E : Env) (t : TypeId) (x ix : AV) : Option AV :=
  match ix with
  | .int _ n =>
    match n with
    | .ofNat n =>
      match E.ty.get t with
      | some ti =>
        match ti.desc with
        | .array len elem =>
          match x with
          | .ptr (some (i, o)) =>
            bif Nat.blt n len then
              match E.ty.get elem with
              | some ei => some (.ptr (some (i, o + n * ei.size)))
              | none => none
            else none
          | .gptr g o =>
            bif Nat.blt n len then
              match E.ty.get elem with
              | some ei => some (.gptr g (o + n * ei.size))
              | none => none
            else none
          | _ => none
        | .slice elem =>
          match x with
          | .slice (some (i, o)) len _ =>
            bif Nat.blt n len then
              match E.ty.get elem with
              | some ei => some (.ptr (some (i, o + n * ei.size)))
              | none => none
            else none
          | _ => none
        | _ => none
      | none => none
    | .negSucc _ => none
  | _ => none

theorem aIndexAddr_ok (hE : E.Ok P) {t : TypeId} {x ix r : AV} {x' ix' : Value} (hx : VR ι x x') (hi : VR ι ix ix') (hr : aIndexAddr E t x ix = some r) :
    ∃ v, (Instr.indexAt t x' ix').run P w = .ok v w ∧ VR ι r v := by
  cases hi with
  | int k n =>
    cases n with
    | negSucc m => simp [aIndexAddr] at hr
    | ofNat n =>
      simp only [aIndexAddr] at hr
      split at hr
      · rename_i ti hti
        have hk := (mkTI_ok (hE.ty _ _ hti)).run_und w
        have h0 : (0 : Int) ≤ Int.ofNat n := Int.natCast_nonneg n
        have htn : (Int.ofNat n).toNat = n := rfl
        split at hr
        · rename_i len elem hd
          rw [hd] at hk
          split at hr
          · rename_i i o
            cases hx with
            | ptr _ _ L hL =>
              cases hb : Nat.blt n len
              · simp only [hb, cond_false, reduceCtorEq] at hr
              · simp only [hb, cond_true] at hr
                split at hr
                · rename_i ei hei
                  simp only [Option.some.injEq] at hr; subst hr
                  have hlt : n < len := by simpa [Nat.blt_eq] using hb
                  have hlt' : Int.ofNat n < (len : Int) := by simpa using hlt
                  refine ⟨.pointer (some ⟨L.b, L.p + (o + n * ei.size), none⟩), ?_, .ptr i _ L hL⟩
                  have h2 := (mkTI_ok (hE.ty _ _ hei)).run_size w
                  simp only [Instr.indexAt, asIntOf, Sem.run_bind, Sem.run_pure, hk, Result.andThen_ok, Instr.sureAddr, h0, hlt', and_self, if_true, h2, htn, add_none, Nat.add_assoc]
                · simp at hr
          · rename_i g o
            cases hx with
            | gptr _ _ =>
              cases hb : Nat.blt n len
              · simp only [hb, cond_false, reduceCtorEq] at hr
              · simp only [hb, cond_true] at hr
                split at hr
                · rename_i ei hei
                  simp only [Option.some.injEq] at hr; subst hr
                  have hlt : n < len := by simpa [Nat.blt_eq] using hb
                  have hlt' : Int.ofNat n < (len : Int) := by simpa using hlt
                  refine ⟨.pointer (some ⟨g, o + n * ei.size, none⟩), ?_, .gptr g _⟩
                  have h2 := (mkTI_ok (hE.ty _ _ hei)).run_size w
                  simp only [Instr.indexAt, asIntOf, Sem.run_bind, Sem.run_pure, hk, Result.andThen_ok, Instr.sureAddr, h0, hlt', and_self, if_true, h2, htn, add_none]
                · simp at hr
          · simp at hr
        · rename_i elem hd
          rw [hd] at hk
          split at hr
          · rename_i i o len c
            cases hx with
            | slice _ _ _ c' L _ hL hc hl =>
              cases hb : Nat.blt n len
              · simp only [hb, cond_false, reduceCtorEq] at hr
              · simp only [hb, cond_true] at hr
                split at hr
                · rename_i ei hei
                  simp only [Option.some.injEq] at hr; subst hr
                  have hlt : n < len := by simpa [Nat.blt_eq] using hb
                  have hlt' : Int.ofNat n < (len : Int) := by simpa using hlt
                  refine ⟨.pointer (some ⟨L.b, L.p + (o + n * ei.size), none⟩), ?_, .ptr i _ L hL⟩
                  have h2 := (mkTI_ok (hE.ty _ _ hei)).run_size w
                  simp only [Instr.indexAt, asIntOf, Sem.run_bind, Sem.run_pure, hk, Result.andThen_ok, Instr.sureAddr, h0, hlt', and_self, if_true, h2, htn, add_none, Nat.add_assoc]
                · simp at hr
          · simp at hr
        · simp at hr
      · simp at hr
  | _ => simp [aIndexAddr] at hr

def aIndex (E : Env) (t : TypeId) (x ix : AV) : Option AV :=
  match ix with
  | .int _ n =>
    match n with
    | .ofNat n =>
      match E.ty.get t with
      | some ti =>
        match ti.desc with
        | .array len elem =>
          match x with
          | .agg cs =>
            bif Nat.blt n len then
              match E.ty.get elem with
              | some ei => aPart E elem cs (n * ei.size)
              | none => none
            else none
          | _ => none
        | .string =>
          match x with
          | .str s =>
            match s[n]? with
            | some c => some (.int .u8 (.ofNat c))
            | none => none
          | _ => none
        | _ => none
      | none => none
    | .negSucc _ => none
  | _ => none

theorem aIndex_ok (hE : E.Ok P) {t : TypeId} {x ix r : AV} {x' ix' : Value} (hx : VR ι x x') (hi : VR ι ix ix') (hr : aIndex E t x ix = some r) :
    ∃ v, (Instr.index t x' ix').run P w = .ok v w ∧ VR ι r v := by
  cases hi with
  | int k n =>
    cases n with
    | negSucc m => simp [aIndex] at hr
    | ofNat n =>
      simp only [aIndex] at hr
      split at hr
      · rename_i ti hti
        have hk := (mkTI_ok (hE.ty _ _ hti)).run_und w
        have h0 : (0 : Int) ≤ Int.ofNat n := Int.natCast_nonneg n
        have htn : (Int.ofNat n).toNat = n := rfl
        split at hr
        · rename_i len elem hd
          rw [hd] at hk
          split at hr
          · rename_i cs
            cases hx with
            | agg _ cs' hs hc h' =>
              cases hb : Nat.blt n len
              · simp only [hb, cond_false, reduceCtorEq] at hr
              · simp only [hb, cond_true] at hr
                split at hr
                · rename_i ei hei
                  have hlt : n < len := by simpa [Nat.blt_eq] using hb
                  have hlt' : Int.ofNat n < (len : Int) := by simpa using hlt
                  have h2 := (mkTI_ok (hE.ty _ _ hei)).run_size w
                  obtain ⟨v, h3, h4⟩ := aPart_ok (P := P) (w := w) hE ⟨hs, h'⟩ hc hr
                  refine ⟨v, ?_, h4⟩
                  simp only [Instr.index, asIntOf, Sem.run_bind, Sem.run_pure, hk, Result.andThen_ok, h0, hlt', and_self, if_true, h2, htn, h3]
                · simp at hr
          · simp at hr
        · rename_i hd
          rw [hd] at hk
          split at hr
          · rename_i s
            cases hx with
            | str _ s' hs =>
              split at hr
              · rename_i c hc
                simp only [Option.some.injEq] at hr; subst hr
                have hlen : n < s'.data.size := by
                  have := (List.getElem?_eq_some_iff.1 hc).1
                  rw [← hs] at this; simpa using this
                have hget : s'[n]? = some s'.data[n] := by
                  have hsz : n < s'.size := hlen
                  rw [getElem?_pos s' n hsz]; rfl
                have hcv : c = s'.data[n].toNat := by
                  rw [← hs] at hc
                  simp at hc
                  obtain ⟨a, ha, e⟩ := hc
                  rw [Array.getElem?_eq_getElem hlen] at ha
                  cases ha
                  exact e.symm
                refine ⟨.int .u8 (Int.ofNat c), ?_, .int _ _⟩
                simp only [Instr.index, asIntOf, Sem.run_bind, Sem.run_pure, hk, Result.andThen_ok, h0, if_true, htn, hget, hcv]
                rfl
              · simp at hr
          · simp at hr
        · simp at hr
      · simp at hr
  | _ => simp [aIndex] at hr
end
end
end Go.Ax
