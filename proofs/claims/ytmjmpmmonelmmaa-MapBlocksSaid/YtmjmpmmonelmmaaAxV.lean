/-
  OWN WORK, TOLD ONCE FOR ALL TEXTS YtmjmpmmonelmmaaAxA TO YtmjmpmmonelmmaaAxU: an abstract machine for the program's text that the kernel can run, and the proof that it is sound: what it answers is what the program answers. No condition.
-/
import Derived.Test.YtmjmpmmonelmmaaAxL
import Derived.Laws.NewFold
namespace Go.Ax
noncomputable section
open Go.RowKit

/-! ### Maps -/
abbrev Ents := List (AV × AV × Nat)

def plainKey : TypeDesc → Bool
  | .int _ => true
  | .string => true
  | .bool => true
  | _ => false

def keyEq (d : TypeDesc) (x y : AV) : Option Bool :=
  match d with
  | .int _ => match x with | .int k a => (match y with | .int j b => bif kEq k j then some (eqF a b) else none | _ => none) | _ => none
  | .string => match x with | .str a => (match y with | .str b => some (lEq a b) | _ => none) | _ => none
  | .bool => match x with | .bool a => (match y with | .bool b => some (boolEq a b) | _ => none) | _ => none
  | _ => none

def findM (d : TypeDesc) (k : AV) : Ents → Nat → Option (Option (Nat × AV))
  | [], _ => some none
  | e :: es, i =>
    match keyEq d k e.1 with
    | some true => some (some (i, e.2.1))
    | some false => findM d k es (i + 1)
    | none => none

def mapAt (st : ASt) (x : AV) : Option Ents :=
  match x with
  | .map none => some []
  | .map (some i) => match st.h.get i with | some (.map es _) => some es | _ => none
  | _ => none

def aMakeMap (st : ASt) : AV × ASt := (.map (some st.next), st.add (.map [] 0))

def aLookup (E : Env) (t : TypeId) (x ix : AV) (ok : Bool) (st : ASt) : Option AV :=
  match E.ty.get t with
  | none => none
  | some ti =>
    match ti.desc with
    | .map key elem =>
      match E.ty.get key with
      | none => none
      | some tk =>
        match mapAt st x with
        | none => none
        | some es =>
          match findM tk.desc ix es 0 with
          | none => none
          | some (some p) => bif plainKey tk.desc then some (bif ok then .tuple [p.2, .bool true] else p.2) else none
          | some none =>
            match E.ty.get elem with
            | none => none
            | some te => match te.zero with | some z => (bif plainKey tk.desc then some (bif ok then .tuple [z, .bool false] else z) else none) | none => none
    | _ => none

def setNth (es : Ents) (i : Nat) (k v : AV) : Ents := es.modify i (fun e => (k, v, e.2.2))

def aMapUpdate (E : Env) (t : TypeId) (m k v : AV) (st : ASt) : Option ASt :=
  match E.ty.get t with
  | none => none
  | some ti =>
    match ti.desc with
    | .map key _ =>
      match E.ty.get key with
      | none => none
      | some tk =>
        bif plainKey tk.desc then
          match m with
          | .map (some i) =>
            match st.h.get i with
            | some (.map es c) =>
              match findM tk.desc k es 0 with
              | some (some p) => some (st.put i (.map (setNth es p.1 k v) c))
              | some none => some (st.put i (.map (es ++ [(k, v, c)]) (c + 1)))
              | none => none
            | _ => none
          | _ => none
        else none
    | _ => none

def aDelete (E : Env) (t : TypeId) (m k : AV) (st : ASt) : Option ASt :=
  match E.ty.get t with
  | none => none
  | some ti =>
    match ti.desc with
    | .map key _ =>
      match E.ty.get key with
      | none => none
      | some tk =>
        bif plainKey tk.desc then
          match m with
          | .map none => some st
          | .map (some i) =>
            match st.h.get i with
            | some (.map es c) =>
              match findM tk.desc k es 0 with
              | some (some p) => some (st.put i (.map (es.eraseIdx p.1) c))
              | some none => some (st.put i (.map es c))
              | none => none
            | _ => none
          | _ => none
        else none
    | _ => none

def aClear (E : Env) (t : TypeId) (x : AV) (st : ASt) : Option ASt :=
  match E.ty.get t with
  | none => none
  | some ti =>
    match x with
    | .map none => some st
    | .map (some i) => match st.h.get i with | some (.map _ c) => some (st.put i (.map [] c)) | _ => none
    | .slice none _ _ => some st
    | .slice0 => some st
    | .slice (some (i, o)) n _ =>
      match n with
      | 0 => some st
      | _ =>
        match ti.desc with
        | .slice e =>
          match E.ty.get e with
          | none => none
          | some ei =>
            match ei.zero with
            | none => none
            | some z =>
              match z with
              | .tuple _ => none
              | .any => none
              | _ =>
                match st.h.get i with
                | some (.cells cs true) => match setL cs o (repL (cellsOf z) n) with | some cs' => some (st.put i (.cells cs' true)) | none => none
                | _ => none
        | _ => none
    | _ => none

def aLenM (E : Env) (t : TypeId) (x : AV) (st : ASt) : Option AV :=
  match x with
  | .map (some i) =>
    match E.ty.get t with
    | some ti =>
      match ti.desc with
      | .map _ _ => match st.h.get i with | some (.map es _) => some (.int .i64 (.ofNat es.length)) | _ => none
      | _ => none
    | none => none
  | _ => none

section
variable {P : Program} {E : Env} {B : Prot} {w0 : World} {ι : Ren} {st : ASt} {w : World}

theorem baEq (a b : ByteArray) : (a == b) = (a.toList == b.toList) := by
  have e : (a == b) = (a.data == b.data) := rfl
  rw [e, Bool.eq_iff_iff, beq_iff_eq, beq_iff_eq, ByteArray.toList_eq, ByteArray.toList_eq]
  exact ⟨fun h => by rw [h], fun h => Array.ext' h⟩

theorem ba_of_beq {a b : ByteArray} (h : (a == b) = true) : a = b := by
  have e : (a == b) = (a.data == b.data) := rfl
  rw [e, beq_iff_eq] at h
  exact ByteArray.ext h

theorem ba_refl (a : ByteArray) : (a == a) = true := by
  have e : (a == a) = (a.data == a.data) := rfl
  rw [e]; exact beq_self_eq_true _

theorem keyEq_ok {d : TypeDesc} {x y : AV} {x' y' : Value} {b : Bool} (hx : VR ι x x') (hy : VR ι y y') (h : keyEq d x y = some b) : Instr.sameNow d x' y' = some b ∧ (b = true → Instr.sameBits 10000 y' x' = true) := by
  cases d with
  | int kk =>
    cases hx with
    | int k a =>
      cases hy with
      | int j c =>
        simp only [keyEq] at h
        cases hk : kEq k j
        · simp [hk] at h
        · have := kEq_eq hk; subst this
          simp only [hk, cond_true, Option.some.injEq] at h
          rw [eqF_eq] at h
          refine ⟨by simp only [Instr.sameNow, if_true]; rw [h], fun hb => ?_⟩
          rw [hb] at h
          have : a = c := by simpa using h
          subst this; simp [Instr.sameBits]
      | _ => simp [keyEq] at h
    | _ => simp [keyEq] at h
  | string =>
    have hx0 := hx
    have hy0 := hy
    cases hx with
    | str l s hs =>
      cases hy with
      | str m r hr =>
        simp only [keyEq, Option.some.injEq] at h
        have e := str_eq hx0 hy0
        refine ⟨by simp only [Instr.sameNow]; rw [baEq, e, h], fun hb => ?_⟩
        rw [hb, ← e] at h
        have : s = r := ba_of_beq (by rw [baEq]; exact h)
        subst this
        simp only [Instr.sameBits]; exact ba_refl s
      | _ => simp [keyEq] at h
    | _ => simp [keyEq] at h
  | bool =>
    cases hx with
    | bool a =>
      cases hy with
      | bool c =>
        simp only [keyEq, Option.some.injEq] at h
        have e : (a == c) = boolEq a c := by cases a <;> cases c <;> rfl
        refine ⟨by simp only [Instr.sameNow]; rw [e, h], fun hb => ?_⟩
        rw [hb, ← e] at h
        have : a = c := by simpa using h
        subst this; simp [Instr.sameBits]
      | _ => simp [keyEq] at h
    | _ => simp [keyEq] at h
  | _ => simp [keyEq] at h

def EntR (ι : Ren) (es : Ents) (es' : List MapEntry) : Prop := es.length = es'.length ∧ ∀ (i : Nat) x e, es[i]? = some x → es'[i]? = some e → VR ι x.1 e.key ∧ VR ι x.2.1 e.val ∧ x.2.2 = e.born

theorem findM_ok {d : TypeDesc} {k : AV} {k' : Value} (hk : VR ι k k') : ∀ (es : Ents) (es' : List MapEntry) (i : Nat) (r : Option (Nat × AV)), EntR ι es es' → findM d k es i = some r →
    match r with
    | none => Instr.findNow d k' es' i = some none
    | some p => ∃ v' j e, Instr.findNow d k' es' i = some (some (p.1, v')) ∧ VR ι p.2 v' ∧ p.1 = i + j ∧ es'[j]? = some e ∧ Instr.sameBits 10000 e.key k' = true
  | [], es', i, r, he, h => by
    simp only [findM, Option.some.injEq] at h; subst h
    have : es' = [] := by have := he.1; simp at this; exact List.eq_nil_of_length_eq_zero this.symm
    subst this; rfl
  | e :: es, [], i, r, he, h => by have := he.1; simp at this
  | e :: es, e' :: es', i, r, he, h => by
    have h0 := he.2 0 e e' rfl rfl
    have het : EntR ι es es' := ⟨by have := he.1; simpa using this, fun j x y hx hy => he.2 (j + 1) x y (by simpa using hx) (by simpa using hy)⟩
    simp only [findM] at h
    split at h
    · rename_i hq
      simp only [Option.some.injEq] at h; subst h
      obtain ⟨q1, q2⟩ := keyEq_ok hk h0.1 hq
      exact ⟨e'.val, 0, e', by simp only [Instr.findNow, q1], h0.2.1, rfl, rfl, q2 rfl⟩
    · rename_i hq
      obtain ⟨q1, _⟩ := keyEq_ok hk h0.1 hq
      have ih := findM_ok hk es es' (i + 1) r het h
      cases r with
      | none => simp only [Instr.findNow, q1]; exact ih
      | some p =>
        obtain ⟨v', j, e1, g1, g2, g3, g4, g5⟩ := ih
        exact ⟨v', j + 1, e1, by simp only [Instr.findNow, q1]; exact g1, g2, by omega, by simpa using g4, g5⟩
    · simp at h

theorem run_checkKey {t : TypeId} {ti : TI} (hE : E.Ok P) (hti : E.ty.get t = some ti) (hp : plainKey ti.desc = true) (b : Bool) (v : Value) : (Instr.checkKey b 10000 t v).run P w = .ok () w := by
  have hk := (mkTI_ok (hE.ty _ _ hti)).run_und w
  rw [show (10000 : Nat) = 9999 + 1 from rfl, Instr.checkKey]
  simp only [Sem.run_bind, hk, Result.andThen_ok]
  cases hd : ti.desc <;> simp only [hd, plainKey, Bool.false_eq_true] at hp <;> simp only [Sem.run_pure]

theorem run_findKey {t : TypeId} {ti : TI} (hE : E.Ok P) (hti : E.ty.get t = some ti) {k' : Value} {es' : List MapEntry} {r : Option (Nat × Value)} (h : Instr.findNow ti.desc k' es' 0 = some r) :
    (Instr.findKey t k' es').run P w = .ok r w := by
  have hk := (mkTI_ok (hE.ty _ _ hti)).run_und w
  simp only [Instr.findKey, Sem.run_bind, hk, Result.andThen_ok, h, Sem.run_pure]

theorem map_obj (h : SR B w0 ι st w) {i : Nat} {es : Ents} {c : Nat} {L : Loc} (hi : st.h.get i = some (.map es c)) (hL : ι i = some L) : ∃ es' : Array MapEntry, w.heap[L.b]? = some (.map es' c) ∧ EntR ι es es'.toList := by
  obtain ⟨L', o, h1, h2, es', h3, h4, h5⟩ := h.obj i _ hi (by simp)
  rw [hL] at h1; cases h1
  exact ⟨es', by rw [h2, h3], by simpa using h4, fun i x e hx he => h5 i x e hx (by simpa using he)⟩

theorem run_getMap {b : Nat} {es : Array MapEntry} {c : Nat} (h : w.heap[b]? = some (.map es c)) : (getObj b).run P w = .ok (.map es c) w := by simp [getObj, Sem.run, h]
theorem run_setMap {b : Nat} {es : Array MapEntry} {c : Nat} (o' : Obj) (h : w.heap[b]? = some (.map es c)) : (setObj b o').run P w = .ok () (setObjW w b o') := by simp [setObj, Sem.run, h, setObjW]

theorem aMakeMap_ok (h : SR B w0 ι st w) {t : TypeId} : Did P B w0 ι w (Instr.makeMap t none) (aMakeMap st) := by
  obtain ⟨h1, h2, h3⟩ := h.alloc (.map [] 0) (.map #[] 0) 0 ⟨#[], rfl, rfl, fun i x e hx => by simp at hx⟩
  refine ⟨_, .map (some w.heap.size), _, ?_, h2, h1, .map _ ⟨w.heap.size, 0, 0⟩ h3⟩
  simp only [Instr.makeMap, Sem.run_bind, run_newObj_alloc, Result.andThen_ok, Sem.run_pure]

theorem mapAt_ok (h : SR B w0 ι st w) {x : AV} {x' : Value} (hx : VR ι x x') {es : Ents} (hm : mapAt st x = some es) :
    ∃ es' : Array MapEntry, ((x' = .map none ∧ es' = #[]) ∨ ∃ r c, x' = .map (some r) ∧ w.heap[r]? = some (.map es' c)) ∧ EntR ι es es'.toList := by
  cases hx with
  | mapN =>
    simp only [mapAt, Option.some.injEq] at hm; subst hm
    exact ⟨#[], .inl ⟨rfl, rfl⟩, rfl, fun i x e hx => by simp at hx⟩
  | map i L hL =>
    simp only [mapAt] at hm
    split at hm
    · rename_i es1 c hi
      simp only [Option.some.injEq] at hm; subst hm
      obtain ⟨es', h1, h2⟩ := map_obj h hi hL
      exact ⟨es', .inr ⟨_, _, rfl, h1⟩, h2⟩
    · simp at hm
  | _ => simp [mapAt] at hm

theorem aLookup_ok (hE : E.Ok P) (h : SR B w0 ι st w) {t : TypeId} {x ix r : AV} {x' ix' : Value} {ok : Bool} (hx : VR ι x x') (hi : VR ι ix ix') (hr : aLookup E t x ix ok st = some r) :
    ∃ v, (Instr.lookup t x' ix' ok).run P w = .ok v w ∧ VR ι r v := by
  simp only [aLookup] at hr
  split at hr
  · simp at hr
  rename_i ti hti
  have hk := (mkTI_ok (hE.ty _ _ hti)).run_und w
  split at hr
  rotate_left
  · simp at hr
  rename_i key elem hd
  rw [hd] at hk
  split at hr
  · simp at hr
  rename_i tk htk
  split at hr
  · simp at hr
  rename_i es hes
  obtain ⟨es', run1, hent⟩ := mapAt_ok h hx hes
  have two : ∀ {a : AV} {v : Value} (b : Bool), VR ι a v → VR ι (.tuple [a, .bool b]) (.tuple #[v, .bool b]) := fun {a v} b hv => .tuple _ _ rfl (fun i y y' hy hy' => by
    match i with
    | 0 => simp at hy hy'; subst hy; subst hy'; exact hv
    | 1 => simp at hy hy'; subst hy; subst hy'; exact .bool b
    | i + 2 => simp at hy)
  have fin : ∀ {a : AV} {v : Value} (b : Bool), VR ι a v → VR ι (bif ok then .tuple [a, .bool b] else a) (if ok = true then .tuple #[v, .bool b] else v) := fun {a v} b hv => by
    cases ok
    · exact hv
    · exact two b hv
  split at hr
  · simp at hr
  · rename_i p hp
    cases hpl : plainKey tk.desc
    · simp [hpl] at hr
    simp only [hpl, cond_true, Option.some.injEq] at hr; subst hr
    obtain ⟨v', j, e, g1, g2, _⟩ := findM_ok hi es es'.toList 0 _ hent hp
    refine ⟨if ok = true then .tuple #[v', .bool true] else v', ?_, fin true g2⟩
    rcases run1 with ⟨rfl, rfl⟩ | ⟨r0, c0, rfl, ho⟩
    · simp only [Instr.lookup, Sem.run_bind, hk, Result.andThen_ok, run_checkKey hE htk hpl, run_findKey hE htk g1, Sem.run_pure]
    · simp only [Instr.lookup, Sem.run_bind, hk, Result.andThen_ok, run_getMap ho, run_checkKey hE htk hpl, run_findKey hE htk g1, Sem.run_pure]
  · rename_i hp
    split at hr
    · simp at hr
    rename_i te hte
    split at hr
    · rename_i z hz
      cases hpl : plainKey tk.desc
      · simp [hpl] at hr
      simp only [hpl, cond_true, Option.some.injEq] at hr; subst hr
      have g1 := findM_ok hi es es'.toList 0 _ hent hp
      simp only at g1
      obtain ⟨v, hv1, hv2⟩ := (mkTI_ok (hE.ty _ _ hte)).run_zero hz w
      refine ⟨if ok = true then .tuple #[v, .bool false] else v, ?_, fin false (hv2 ι)⟩
      rcases run1 with ⟨rfl, rfl⟩ | ⟨r0, c0, rfl, ho⟩
      · simp only [Instr.lookup, Sem.run_bind, hk, Result.andThen_ok, run_checkKey hE htk hpl, run_findKey hE htk g1, hv1, Sem.run_pure]
      · simp only [Instr.lookup, Sem.run_bind, hk, Result.andThen_ok, run_getMap ho, run_checkKey hE htk hpl, run_findKey hE htk g1, hv1, Sem.run_pure]
    · simp at hr

theorem EntR.snoc {es : Ents} {es' : List MapEntry} (h : EntR ι es es') {k v : AV} {k' v' : Value} (hk : VR ι k k') (hv : VR ι v v') (c : Nat) : EntR ι (es ++ [(k, v, c)]) (es' ++ [{ key := k', val := v', born := c }]) := by
  refine ⟨by simp [h.1], fun i x e hx he => ?_⟩
  by_cases hi : i < es.length
  · rw [List.getElem?_append_left hi] at hx
    rw [List.getElem?_append_left (by rw [← h.1]; exact hi)] at he
    exact h.2 i x e hx he
  · have e1 : i = es.length := by
      have := (List.getElem?_eq_some_iff.1 hx).1
      simp at this; omega
    subst e1
    rw [List.getElem?_append_right (Nat.le_refl _)] at hx
    rw [List.getElem?_append_right (by rw [h.1]; exact Nat.le_refl _)] at he
    simp [h.1] at hx he
    subst hx; subst he
    exact ⟨hk, hv, rfl⟩

theorem aMapUpdate_ok (hE : E.Ok P) (h : SR B w0 ι st w) {t : TypeId} {m k v : AV} {m' k' v' : Value} {st' : ASt} (hm : VR ι m m') (hk : VR ι k k') (hv : VR ι v v') (hr : aMapUpdate E t m k v st = some st') :
    ∃ w', (Instr.mapUpdate t m' k' v').run P w = .ok () w' ∧ SR B w0 ι st' w' := by
  simp only [aMapUpdate] at hr
  split at hr
  · simp at hr
  rename_i ti hti
  have hu := (mkTI_ok (hE.ty _ _ hti)).run_und w
  split at hr
  rotate_left
  · simp at hr
  rename_i key elem hd
  rw [hd] at hu
  split at hr
  · simp at hr
  rename_i tk htk
  cases hpl : plainKey tk.desc
  · simp [hpl] at hr
  simp only [hpl, cond_true] at hr
  split at hr
  rotate_left
  · simp at hr
  rename_i i
  cases hm with
  | map _ L hL =>
  split at hr
  rotate_left
  · simp at hr
  rename_i es c hi
  obtain ⟨es', ho, hent⟩ := map_obj h hi hL
  split at hr
  · rename_i p hp
    simp only [Option.some.injEq] at hr; subst hr
    obtain ⟨v0, j, e, g1, g2, g3, g4, g5⟩ := findM_ok hk es es'.toList 0 _ hent hp
    have hpj : p.1 = j := by omega
    have g4' : es'[p.1]? = some e := by rw [hpj]; simpa using g4
    have hw := h.write (a' := .map (setNth es p.1 k v) c) hi rfl hL (o' := .map (es'.modify p.1 fun e => { e with key := k', val := v' }) c)
      ⟨_, rfl, by simpa [setNth] using hent.1, fun q x y hx hy => by
        simp only [setNth, List.getElem?_modify] at hx
        rw [Array.getElem?_modify] at hy
        by_cases e1 : p.1 = q
        · subst e1
          cases h1 : es[p.1]? with
          | none => simp [h1] at hx
          | some x0 =>
            cases h2 : es'[p.1]? with
            | none => simp [h2] at hy
            | some y0 =>
              simp only [h1, if_true, Option.map_eq_map, Option.map_some, Option.some.injEq] at hx
              simp only [h2, if_true, Option.map_some, Option.some.injEq] at hy
              have h3 := (hent.2 _ _ _ h1 (by rw [Array.getElem?_toList]; exact h2)).2.2
              subst hx; subst hy
              exact ⟨hk, hv, h3⟩
        · simp only [e1, if_false] at hx hy
          exact hent.2 q x y (by simpa using hx) (by simpa using hy)⟩
    refine ⟨_, ?_, hw⟩
    simp only [Instr.mapUpdate, Sem.run_bind, hu, Result.andThen_ok, run_getMap ho, run_checkKey hE htk hpl, run_findKey hE htk g1, g4', Option.map_some, Option.getD_some, Instr.keyThatStays, g5, if_true, Sem.run_pure, run_setMap _ ho]
  · rename_i hp
    simp only [Option.some.injEq] at hr; subst hr
    have g1 := findM_ok hk es es'.toList 0 _ hent hp
    simp only at g1
    have hs := hent.snoc hk hv c
    have hw := h.write (a' := .map (es ++ [(k, v, c)]) (c + 1)) hi rfl hL (o' := .map (es'.push { key := k', val := v', born := c }) (c + 1))
      ⟨_, rfl, by simpa using hs.1, fun q x y hx hy => hs.2 q x y hx (by rw [← Array.toList_push, Array.getElem?_toList]; exact hy)⟩
    refine ⟨_, ?_, hw⟩
    simp only [Instr.mapUpdate, Sem.run_bind, hu, Result.andThen_ok, run_getMap ho, run_checkKey hE htk hpl, run_findKey hE htk g1, run_setMap _ ho]
  · simp at hr

theorem aDelete_ok (hE : E.Ok P) (h : SR B w0 ι st w) {t : TypeId} {ts : List TypeId} {rT : TypeId} {m k : AV} {m' k' : Value} {st' : ASt} (hm : VR ι m m') (hk : VR ι k k') (hr : aDelete E t m k st = some st') :
    ∃ w', (Builtin.delete_ (t :: ts).toArray rT #[m', k']).run P w = .ok (.tuple #[]) w' ∧ SR B w0 ι st' w' := by
  simp only [aDelete] at hr
  split at hr
  · simp at hr
  rename_i ti hti
  have hu := (mkTI_ok (hE.ty _ _ hti)).run_und w
  split at hr
  rotate_left
  · simp at hr
  rename_i key elem hd
  rw [hd] at hu
  split at hr
  · simp at hr
  rename_i tk htk
  cases hpl : plainKey tk.desc
  · simp [hpl] at hr
  simp only [hpl, cond_true] at hr
  have e0 : (t :: ts).toArray[0]? = some t := rfl
  have e1 : (#[m', k'] : Array Value)[0]? = some m' := rfl
  have e2 : (#[m', k'] : Array Value)[1]? = some k' := rfl
  split at hr
  · cases hm
    simp only [Option.some.injEq] at hr; subst hr
    refine ⟨w, ?_, h⟩
    simp only [Builtin.delete_, e0, e1, e2, Sem.run_bind, hu, Result.andThen_ok, run_checkKey hE htk hpl, Sem.run_pure]
  · rename_i i
    cases hm with
    | map _ L hL =>
    split at hr
    rotate_left
    · simp at hr
    rename_i es c hi
    obtain ⟨es', ho, hent⟩ := map_obj h hi hL
    split at hr
    · rename_i p hp
      simp only [Option.some.injEq] at hr; subst hr
      obtain ⟨v0, j, e, g1, g2, g3, g4, g5⟩ := findM_ok hk es es'.toList 0 _ hent hp
      have hlt : p.1 < es'.size := by have := (List.getElem?_eq_some_iff.1 g4).1; simp at this; omega
      have hw := h.write (a' := .map (es.eraseIdx p.1) c) hi rfl hL (o' := .map (es'.eraseIdxIfInBounds p.1) c)
        ⟨_, rfl, by
          have hlen : es.length = es'.size := by simpa using hent.1
          rw [← Array.length_toList, Array.toList_eraseIdxIfInBounds, List.length_eraseIdx, List.length_eraseIdx]
          simp only [hlen, Array.length_toList], fun q x y hx hy => by
          rw [← Array.getElem?_toList, Array.toList_eraseIdxIfInBounds, List.getElem?_eraseIdx] at hy
          rw [List.getElem?_eraseIdx] at hx
          by_cases hq : q < p.1
          · simp only [hq, if_true] at hx hy; exact hent.2 _ _ _ hx hy
          · simp only [hq, if_false] at hx hy; exact hent.2 _ _ _ hx hy⟩
      refine ⟨_, ?_, hw⟩
      simp only [Builtin.delete_, e0, e1, e2, Sem.run_bind, hu, Result.andThen_ok, run_getMap ho, run_checkKey hE htk hpl, run_findKey hE htk g1, run_setMap _ ho, Sem.run_pure]
    · rename_i hp
      simp only [Option.some.injEq] at hr; subst hr
      have g1 := findM_ok hk es es'.toList 0 _ hent hp
      simp only at g1
      have hw := h.write (a' := .map es c) hi rfl hL (o' := .map es' c) ⟨_, rfl, by simpa using hent.1, fun q x y hx hy => hent.2 q x y hx (by simpa using hy)⟩
      refine ⟨_, ?_, hw⟩
      simp only [Builtin.delete_, e0, e1, e2, Sem.run_bind, hu, Result.andThen_ok, run_getMap ho, run_checkKey hE htk hpl, run_findKey hE htk g1, run_setMap _ ho, Sem.run_pure]
    · simp at hr
  · simp at hr

theorem aClear_ok (hE : E.Ok P) (h : SR B w0 ι st w) {t : TypeId} {ts : List TypeId} {rT : TypeId} {x : AV} {x' : Value} {st' : ASt} (hx : VR ι x x') (hr : aClear E t x st = some st') :
    ∃ w', (Builtin.clear_ (t :: ts).toArray rT #[x']).run P w = .ok (.tuple #[]) w' ∧ SR B w0 ι st' w' := by
  simp only [aClear] at hr
  split at hr
  · simp at hr
  rename_i ti hti
  have hu := (mkTI_ok (hE.ty _ _ hti)).run_und w
  have e0 : (t :: ts).toArray[0]? = some t := rfl
  have e1 : (#[x'] : Array Value)[0]? = some x' := rfl
  split at hr
  · cases hx
    simp only [Option.some.injEq] at hr; subst hr
    refine ⟨w, ?_, h⟩
    simp only [Builtin.clear_, e0, e1, Sem.run_bind, hu, Result.andThen_ok, Sem.run_pure]
  · rename_i i
    cases hx with
    | map _ L hL =>
    split at hr
    · rename_i es c hi
      simp only [Option.some.injEq] at hr; subst hr
      obtain ⟨es', ho, hent⟩ := map_obj h hi hL
      have hw := h.write (a' := .map [] c) hi rfl hL (o' := .map #[] c) ⟨#[], rfl, rfl, fun i x e hx => by simp at hx⟩
      refine ⟨_, ?_, hw⟩
      simp only [Builtin.clear_, e0, e1, Sem.run_bind, hu, Result.andThen_ok, run_getMap ho, run_setMap _ ho, Sem.run_pure]
    · simp at hr
  · cases hx
    simp only [Option.some.injEq] at hr; subst hr
    refine ⟨w, ?_, h⟩
    simp only [Builtin.clear_, e0, e1, Sem.run_bind, hu, Result.andThen_ok, Sem.run_pure]
  · cases hx
    simp only [Option.some.injEq] at hr; subst hr
    refine ⟨w, ?_, h⟩
    simp only [Builtin.clear_, e0, e1, Sem.run_bind, hu, Result.andThen_ok, Sem.run_pure]
  · rename_i i o n cp
    cases hx with
    | slice _ _ _ c' L _ hL hc hl =>
    split at hr
    · simp only [Option.some.injEq] at hr; subst hr
      refine ⟨w, ?_, h⟩
      simp only [Builtin.clear_, e0, e1, Sem.run_bind, hu, Result.andThen_ok, Sem.run_pure]
    · rename_i hn0
      split at hr
      rotate_left
      · simp at hr
      rename_i e hd
      rw [hd] at hu
      split at hr
      · simp at hr
      rename_i ei hei
      split at hr
      · simp at hr
      rename_i z hz
      have key : ((∀ vs, z ≠ .tuple vs) ∧ z ≠ .any) → (match st.h.get i with
          | some (.cells cs true) => match setL cs o (repL (cellsOf z) n) with | some cs' => some (st.put i (.cells cs' true)) | none => none
          | _ => none) = some st' → ∃ w', (Builtin.clear_ (t :: ts).toArray rT #[.slice (some ⟨L.b, L.p + o, none⟩) n c']).run P w = .ok (.tuple #[]) w' ∧ SR B w0 ι st' w' := by
        intro hnt hr
        split at hr
        · rename_i cs hi
          split at hr
          · rename_i cs' hset
            simp only [Option.some.injEq] at hr; subst hr
            obtain ⟨v, hv1, hv2, hv3⟩ := zero_cells hE hei hz hnt w
            have hrep := repL_VRs (hv2 ι) n
            obtain ⟨w', s1, s2⟩ := SR.storeCells (P := P) (repL (cellsOf z) n) (Builtin.zeroCells v.cells n).toList 0 o cs cs' st w h hi hL (by simpa using hset) (by simpa only [Builtin.zeroCells, Array.toArray_toList] using hrep) (repL_cell hv3 n)
            refine ⟨w', ?_, s2⟩
            cases n with
            | zero => exact absurd rfl hn0
            | succ n =>
              simp only [Builtin.clear_, e0, e1, Sem.run_bind, hu, Result.andThen_ok, hv1, s1, Sem.run_pure]
          · simp at hr
        · simp at hr
      split at hr
      · simp at hr
      · simp at hr
      · rename_i hnt hny
        exact key ⟨fun vs e => hnt vs e, fun e => hny e⟩ hr
  · simp at hr

theorem aLenM_ok (hE : E.Ok P) (h : SR B w0 ι st w) {t : TypeId} {ts : List TypeId} {rT : TypeId} {x r : AV} {x' : Value} (hx : VR ι x x') (hr : aLenM E t x st = some r) :
    ∃ v, (Builtin.len_ (t :: ts).toArray rT #[x']).run P w = .ok v w ∧ VR ι r v := by
  simp only [aLenM] at hr
  split at hr
  · rename_i i
    cases hx with
    | map _ L hL =>
    split at hr
    · rename_i ti hti
      have hu := (mkTI_ok (hE.ty _ _ hti)).run_und w
      split at hr
      · rename_i k e hd
        rw [hd] at hu
        split at hr
        · rename_i es c hi
          simp only [Option.some.injEq] at hr; subst hr
          obtain ⟨es', ho, hent⟩ := map_obj h hi hL
          have e0 : (t :: ts).toArray[0]? = some t := rfl
          have e1 : (#[Value.map (some L.b)] : Array Value)[0]? = some (.map (some L.b)) := rfl
          refine ⟨.int .i64 (es'.size : Int), ?_, by have := hent.1; simp at this; rw [this]; exact .int .i64 _⟩
          simp only [Builtin.len_, e0, e1, Sem.run_bind, hu, Result.andThen_ok, run_getMap ho, Sem.run_pure, goInt]
        · simp at hr
      · simp at hr
    · simp at hr
  · simp at hr
end
end
end Go.Ax
