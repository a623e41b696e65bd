/-
  OWN WORK, TOLD ONCE FOR ALL TEXTS YtmjmpmmonelmmaaAxA TO YtmjmpmmonelmmaaAxU: an abstract machine for the program's text that the kernel can run, and the proof that it is sound: what it answers is what the program answers. No condition.
-/
import Derived.Test.YtmjmpmmonelmmaaAxV
namespace Go.Ax
noncomputable section
open Go.RowKit

/-! ### Ranges over maps and strings -/
def aRange (E : Env) (t : TypeId) (x : AV) (st : ASt) : Option (AV × ASt) :=
  match E.ty.get t with
  | none => none
  | some ti =>
    match ti.desc with
    | .string => match x with | .str s => some (.ptr (some (st.next, 0)), st.add (.siter s 0)) | _ => none
    | .map _ _ =>
      match x with
      | .map none => some (.ptr (some (st.next, 0)), st.add (.miter none 0 [] 0))
      | .map (some i) => match st.h.get i with | some (.map _ c) => some (.ptr (some (st.next, 0)), st.add (.miter (some i) c [] c)) | _ => none
      | _ => none
    | _ => none

def memN (n : Nat) : List Nat → Bool
  | [] => false
  | m :: ms => bif Nat.beq n m then true else memN n ms

def filt (p : Nat → Bool) : Ents → Ents
  | [] => []
  | e :: es => bif p e.2.2 then e :: filt p es else filt p es

def allE (p : Nat → Bool) : Ents → Bool
  | [] => true
  | e :: es => bif p e.2.2 then allE p es else false

def isNil {α : Type} : List α → Bool
  | [] => true
  | _ => false

def overA (st : ASt) : Option (AV × ASt) := some (.tuple [.bool false], st)

def aNext (x : AV) (isS : Bool) (st : ASt) : Option (AV × ASt) :=
  match x with
  | .ptr (some (i, 0)) =>
    match st.h.get i with
    | some (.siter s pos) =>
      bif isS then
        bif Nat.blt pos s.length then
          match s[pos]? with
          | some b => bif Nat.blt b 128 then some (.tuple [.bool true, .int .i64 (.ofNat pos), .int .i32 (.ofNat b)], st.put i (.siter s (pos + 1))) else none
          | none => none
        else overA st
      else none
    | some (.miter m since seen last) =>
      bif isS then none else
      match m with
      | none => overA st
      | some j =>
        match st.h.get j with
        | some (.map es c) =>
          bif (bif isNil seen then false else bif isNil es then false else allE (fun b => Nat.ble last b) es) then none else
          let left := filt (fun b => Bool.not (memN b seen)) es
          match filt (fun b => Nat.blt b since) left with
          | [] => (match filt (fun b => Nat.ble since b) left with | [] => overA st | _ => none)
          | [e] => (match filt (fun b => Nat.ble since b) left with
            | [] => some (.tuple [.bool true, e.1, e.2.1], st.put i (.miter (some j) since (seen ++ [e.2.2]) c))
            | _ => none)
          | _ => none
        | _ => none
    | _ => none
  | _ => none

def findB (n : Nat) : Ents → Option (AV × AV)
  | [] => none
  | e :: es => bif Nat.beq e.2.2 n then some (e.1, e.2.1) else findB n es

def aEntry (x : AV) (st : ASt) : Option AV :=
  match x with
  | .ptr (some (i, 0)) =>
    match st.h.get i with
    | some (.miter (some j) _ seen last) =>
      match seen.getLast? with
      | none => none
      | some b =>
        match st.h.get j with
        | some (.map es c) =>
          bif Nat.beq c last then
            match findB b es with
            | some p => some (.tuple [p.1, p.2])
            | none => none
          else none
        | _ => none
    | _ => none
  | _ => none

section
variable {P : Program} {E : Env} {B : Prot} {w0 : World} {ι : Ren} {st : ASt} {w : World}

theorem aRange_ok (hE : E.Ok P) (h : SR B w0 ι st w) {t : TypeId} {x : AV} {x' : Value} {r : AV × ASt} (hx : VR ι x x') (hr : aRange E t x st = some r) : Did P B w0 ι w (Instr.range t x') r := by
  simp only [aRange] at hr
  split at hr
  · simp at hr
  rename_i ti hti
  have hk := (mkTI_ok (hE.ty _ _ hti)).run_und w
  split at hr
  · rename_i hd
    rw [hd] at hk
    split at hr
    · cases hx with
      | str _ s hs =>
        simp only [Option.some.injEq] at hr; subst hr
        obtain ⟨h1, h2, h3⟩ := h.alloc (.siter _ 0) (.stringIter s 0) 0 ⟨rfl, s, rfl, hs⟩
        refine ⟨_, .pointer (some ⟨w.heap.size, 0, none⟩), _, ?_, h2, h1, .ptr _ 0 ⟨w.heap.size, 0, 0⟩ h3⟩
        simp only [Instr.range, Sem.run_bind, hk, Result.andThen_ok, Sem.run_pure, run_newObj_alloc]
    · simp at hr
  · rename_i k e hd
    rw [hd] at hk
    split at hr
    · cases hx
      simp only [Option.some.injEq] at hr; subst hr
      obtain ⟨h1, h2, h3⟩ := h.alloc (.miter none 0 [] 0) (.mapIter none 0 #[] 0) 0 ⟨rfl, none, rfl, rfl⟩
      refine ⟨_, .pointer (some ⟨w.heap.size, 0, none⟩), _, ?_, h2, h1, .ptr _ 0 ⟨w.heap.size, 0, 0⟩ h3⟩
      simp only [Instr.range, Sem.run_bind, hk, Result.andThen_ok, Sem.run_pure, run_newObj_alloc]
    · rename_i i
      cases hx with
      | map _ L hL =>
      split at hr
      · rename_i es c hi
        simp only [Option.some.injEq] at hr; subst hr
        obtain ⟨es', ho, hent⟩ := map_obj h hi hL
        obtain ⟨h1, h2, h3⟩ := h.alloc (.miter (some i) c [] c) (.mapIter (some L.b) c #[] c) 0 ⟨rfl, some L.b, rfl, L, hL, rfl⟩
        refine ⟨_, .pointer (some ⟨w.heap.size, 0, none⟩), _, ?_, h2, h1, .ptr _ 0 ⟨w.heap.size, 0, 0⟩ h3⟩
        simp only [Instr.range, Sem.run_bind, hk, Result.andThen_ok, run_getMap ho, Sem.run_pure, run_newObj_alloc]
      · simp at hr
    · simp at hr
  · simp at hr

theorem memN_ok (n : Nat) : ∀ l : List Nat, memN n l = l.toArray.contains n
  | [] => by simp [memN]
  | m :: ms => by
    simp only [memN, memN_ok n ms, beq_dec]
    by_cases h : n = m
    · subst h; simp
    · simp [h]

theorem filt_ok {p : Nat → Bool} : ∀ {es : Ents} {es' : List MapEntry}, EntR ι es es' → EntR ι (filt p es) (es'.filter fun e => p e.born)
  | [], es', h => by
    have : es' = [] := List.eq_nil_of_length_eq_zero (by have := h.1; simpa using this.symm)
    subst this; exact ⟨rfl, fun i x e hx => by simp [filt] at hx⟩
  | e :: es, [], h => by have := h.1; simp at this
  | e :: es, e' :: es', h => by
    have h0 := h.2 0 e e' rfl rfl
    have ht : EntR ι es es' := ⟨by have := h.1; simpa using this, fun j x y hx hy => h.2 (j + 1) x y (by simpa using hx) (by simpa using hy)⟩
    have ih := filt_ok (p := p) ht
    simp only [filt, List.filter_cons]
    rw [h0.2.2]
    cases p e'.born
    · exact ih
    · refine ⟨by simp only [cond_true, if_true, List.length_cons, ih.1], fun j x y hx hy => ?_⟩
      simp only [cond_true, if_true] at hx hy
      cases j with
      | zero => simp at hx hy; subst hx; subst hy; exact h0
      | succ j => exact ih.2 j x y (by simpa using hx) (by simpa using hy)

theorem allE_ok {p : Nat → Bool} : ∀ {es : Ents} {es' : List MapEntry}, EntR ι es es' → allE p es = es'.all fun e => p e.born
  | [], es', h => by
    have : es' = [] := List.eq_nil_of_length_eq_zero (by have := h.1; simpa using this.symm)
    subst this; rfl
  | e :: es, [], h => by have := h.1; simp at this
  | e :: es, e' :: es', h => by
    have h0 := h.2 0 e e' rfl rfl
    have ht : EntR ι es es' := ⟨by have := h.1; simpa using this, fun j x y hx hy => h.2 (j + 1) x y (by simpa using hx) (by simpa using hy)⟩
    simp only [allE, List.all_cons, allE_ok ht]
    rw [h0.2.2]
    cases p e'.born <;> rfl

theorem EntR.nil {es' : List MapEntry} (h : EntR ι [] es') : es' = [] := List.eq_nil_of_length_eq_zero (by have := h.1; simpa using this.symm)

theorem EntR.one {e : AV × AV × Nat} {es' : List MapEntry} (h : EntR ι [e] es') : ∃ e', es' = [e'] ∧ VR ι e.1 e'.key ∧ VR ι e.2.1 e'.val ∧ e.2.2 = e'.born := by
  have hl := h.1
  match es', hl, h with
  | [e'], _, h => exact ⟨e', rfl, h.2 0 e e' rfl rfl⟩

theorem three {a b : AV} {a' b' : Value} (h1 : VR ι a a') (h2 : VR ι b b') : VR ι (.tuple [.bool true, a, b]) (.tuple #[.bool true, a', b']) := .tuple _ _ rfl (fun i y y' hy hy' => by
  match i with
  | 0 => simp at hy hy'; subst hy; subst hy'; exact .bool true
  | 1 => simp at hy hy'; subst hy; subst hy'; exact h1
  | 2 => simp at hy hy'; subst hy; subst hy'; exact h2
  | i + 3 => simp at hy)

theorem overA_ok (h : SR B w0 ι st w) {r : AV × ASt} (hr : overA st = some r) : Did P B w0 ι w (pure (.tuple #[.bool false])) r := by
  simp only [overA, Option.some.injEq] at hr; subst hr
  exact ⟨ι, .tuple #[.bool false], w, by simp only [Sem.run_pure], ι.le_refl, h, .tuple _ _ rfl (fun i y y' hy hy' => by
    cases i with
    | zero => simp at hy hy'; subst hy; subst hy'; exact .bool false
    | succ i => simp at hy)⟩

theorem run_getSI {b : Nat} {s : ByteArray} {p : Nat} (h : w.heap[b]? = some (.stringIter s p)) : (getObj b).run P w = .ok (.stringIter s p) w := by simp [getObj, Sem.run, h]
theorem run_setSI {b : Nat} {s : ByteArray} {p : Nat} (o' : Obj) (h : w.heap[b]? = some (.stringIter s p)) : (setObj b o').run P w = .ok () (setObjW w b o') := by simp [setObj, Sem.run, h, setObjW]
theorem run_getMI {b : Nat} {m : Option Nat} {since : Nat} {seen : Array Nat} {last : Nat} (h : w.heap[b]? = some (.mapIter m since seen last)) : (getObj b).run P w = .ok (.mapIter m since seen last) w := by simp [getObj, Sem.run, h]
theorem run_setMI {b : Nat} {m : Option Nat} {since : Nat} {seen : Array Nat} {last : Nat} (o' : Obj) (h : w.heap[b]? = some (.mapIter m since seen last)) : (setObj b o').run P w = .ok () (setObjW w b o') := by simp [setObj, Sem.run, h, setObjW]

theorem ascii {s : ByteArray} {pos b : Nat} (h : (s.data.toList.map UInt8.toNat)[pos]? = some b) (hb : b < 128) : pos < s.size ∧ Utf8.decode s pos = (b, 1) := by
  rw [List.getElem?_map] at h
  cases hx : s.data.toList[pos]? with
  | none => rw [hx] at h; simp at h
  | some x =>
    rw [hx] at h
    simp only [Option.map_some, Option.some.injEq] at h
    have hlt : pos < s.data.size := by have := (List.getElem?_eq_some_iff.1 hx).1; simpa using this
    refine ⟨hlt, ?_⟩
    have hg : s.get! (pos + 0) = x := by
      have h2 : s.data[pos]? = some x := by simpa using hx
      show s.data[pos + 0]! = x
      rw [Nat.add_zero, getElem!_def, h2]
    unfold Utf8.decode
    simp only [hg, h, hb, if_true]

theorem aNext_ok (h : SR B w0 ι st w) {x : AV} {x' : Value} {isS : Bool} {ty : TypeId} {r : AV × ASt} (hx : VR ι x x') (hr : aNext x isS st = some r) : Did P B w0 ι w (Instr.next x' isS ty) r := by
  unfold aNext at hr
  split at hr
  rotate_left
  · simp at hr
  rename_i i
  cases hx with
  | ptr _ _ L hL =>
  split at hr
  · rename_i s pos hi
    obtain ⟨L', o, h1, h2, h0, b, h3, h4⟩ := h.obj i _ hi (by simp)
    rw [hL] at h1; cases h1
    rw [h3] at h2
    cases isS
    · simp at hr
    simp only [cond_true] at hr
    have hlen : s.length = b.size := by rw [← h4]; simp
    have e0 : L.p + 0 = 0 := by omega
    cases hlt : Nat.blt pos s.length
    · simp only [hlt, cond_false] at hr
      have hge : ¬ pos < b.size := by
        intro hh
        have : Nat.blt pos s.length = true := by rw [Nat.blt_eq]; omega
        rw [this] at hlt; cases hlt
      obtain ⟨ι', v, w', g1, g2, g3, g4⟩ := overA_ok (P := P) h hr
      refine ⟨ι', v, w', ?_, g2, g3, g4⟩
      rw [← g1, e0]
      simp only [Instr.next, Sem.run_bind, run_getSI h2, Result.andThen_ok, hge, if_false]
    · simp only [hlt, cond_true] at hr
      split at hr
      · rename_i c hc
        cases hb : Nat.blt c 128
        · simp [hb] at hr
        simp only [hb, cond_true, Option.some.injEq] at hr; subst hr
        have hc' : c < 128 := by rw [← Nat.blt_eq]; exact hb
        rw [← h4] at hc
        obtain ⟨k1, k2⟩ := ascii hc hc'
        have hw := h.write (a' := .siter s (pos + 1)) hi rfl hL (o' := .stringIter b (pos + 1)) ⟨h0, b, rfl, h4⟩
        refine ⟨ι, .tuple #[.bool true, .int .i64 (pos : Int), .int .i32 (c : Int)], _, ?_, ι.le_refl, hw, three (.int _ _) (.int _ _)⟩
        rw [e0]
        simp only [Instr.next, Sem.run_bind, run_getSI h2, Result.andThen_ok, k1, if_true, k2, run_setSI _ h2, Sem.run_pure, goInt]
      · simp at hr
  · rename_i m since seen last hi
    obtain ⟨L', o, h1, h2, h0, m', h3, h4⟩ := h.obj i _ hi (by simp)
    rw [hL] at h1; cases h1
    rw [h3] at h2
    have e0 : L.p + 0 = 0 := by omega
    cases isS
    rotate_left
    · simp at hr
    simp only [cond_false] at hr
    split at hr
    · subst h4
      obtain ⟨ι', v, w', g1, g2, g3, g4⟩ := overA_ok (P := P) h hr
      refine ⟨ι', v, w', ?_, g2, g3, g4⟩
      rw [← g1, e0]
      simp only [Instr.next, Sem.run_bind, run_getMI h2, Result.andThen_ok]
    · rename_i j
      obtain ⟨D, hD, rfl⟩ := h4
      split at hr
      rotate_left
      · simp at hr
      rename_i es c hj
      obtain ⟨es', ho, hent⟩ := map_obj h hj hD
      cases hbad : (bif isNil seen then false else bif isNil es then false else allE (fun b => Nat.ble last b) es)
      rotate_left
      · rw [hbad] at hr; exact absurd hr (by simp)
      simp only [hbad, cond_false] at hr
      have hbad' : (!seen.toArray.isEmpty && !es'.isEmpty && es'.all (fun e => decide (e.born ≥ last))) = false := by
        have e1 : seen.toArray.isEmpty = isNil seen := by cases seen <;> rfl
        have e2 : es'.isEmpty = isNil es := by
          have := hent.1
          cases es with
          | nil => have := hent.nil; simp at this; subst this; rfl
          | cons a l => simp at this; simp [isNil]; intro h; subst h; simp at this
        have e3 : es'.all (fun e => decide (e.born ≥ last)) = allE (fun b => Nat.ble last b) es := by
          rw [allE_ok hent, ← Array.all_toList]
          congr 1; funext e
          rw [Bool.eq_iff_iff, decide_eq_true_eq, Nat.ble_eq]
        rw [e1, e2, e3]
        revert hbad
        cases isNil seen <;> cases isNil es <;> cases allE (fun b => Nat.ble last b) es <;> simp
      have l1 := filt_ok (p := fun b => Bool.not (memN b seen)) hent
      have l2 := filt_ok (p := fun b => Nat.blt b since) l1
      have l3 := filt_ok (p := fun b => Nat.ble since b) l1
      have q1 : (es'.filter fun e => !seen.toArray.contains e.born).toList = es'.toList.filter fun e => Bool.not (memN e.born seen) := by
        rw [Array.toList_filter]
        congr 1; funext e; rw [memN_ok]
      have q2 : ((es'.filter fun e => !seen.toArray.contains e.born).filter fun e => decide (e.born < since)).toList = (es'.toList.filter fun e => Bool.not (memN e.born seen)).filter fun e => Nat.blt e.born since := by
        rw [Array.toList_filter, q1]
        congr 1; funext e; rw [Bool.eq_iff_iff, decide_eq_true_eq, Nat.blt_eq]
      have q3 : ((es'.filter fun e => !seen.toArray.contains e.born).filter fun e => decide (e.born ≥ since)).toList = (es'.toList.filter fun e => Bool.not (memN e.born seen)).filter fun e => Nat.ble since e.born := by
        rw [Array.toList_filter, q1]
        congr 1; funext e; rw [Bool.eq_iff_iff, decide_eq_true_eq, Nat.ble_eq]
      rw [← q2] at l2
      rw [← q3] at l3
      generalize hA : ((es'.filter fun e => !seen.toArray.contains e.born).filter fun e => decide (e.born < since)) = A at l2
      generalize hB : ((es'.filter fun e => !seen.toArray.contains e.born).filter fun e => decide (e.born ≥ since)) = Bq at l3
      split at hr
      · rename_i hnil
        rw [hnil] at l2
        have hA0 : A = #[] := Array.ext' (by simpa using l2.nil)
        split at hr
        · rename_i hnil2
          rw [hnil2] at l3
          have hB0 : Bq = #[] := Array.ext' (by simpa using l3.nil)
          obtain ⟨ι', v, w', g1, g2, g3, g4⟩ := overA_ok (P := P) h hr
          refine ⟨ι', v, w', ?_, g2, g3, g4⟩
          rw [← g1, e0]
          simp only [Instr.next, Sem.run_bind, run_getMI h2, Result.andThen_ok, run_getMap ho, hbad', Bool.false_eq_true, if_false, hA, hB, hA0, hB0]
          have harr : ((if (#[] : Array MapEntry).isEmpty then #[none] else #[]) ++ ((#[] : Array MapEntry) ++ #[]).map some) = (#[none] : Array (Option MapEntry)) := by simp
          rw [harr]
          have hch : (choose (.mapNext (#[none] : Array (Option MapEntry)).size)).run P w = .ok 0 w := by
            rw [run_choose_drew]; rfl
          rw [hch]
          simp only [Result.andThen_ok]
          have hget : (#[none] : Array (Option MapEntry))[0]? = some (none) := rfl
          rw [hget]
        · simp at hr
      · rename_i e hone
        rw [hone] at l2
        obtain ⟨e', he', f1, f2, f3⟩ := l2.one
        have hA0 : A = #[e'] := Array.ext' (by simpa using he')
        split at hr
        · rename_i hnil2
          rw [hnil2] at l3
          have hB0 : Bq = #[] := Array.ext' (by simpa using l3.nil)
          simp only [Option.some.injEq] at hr; subst hr
          have hw := h.write (a' := .miter (some j) since (seen ++ [e.2.2]) c) hi rfl hL (o' := .mapIter (some D.b) since (seen.toArray.push e'.born) c)
            ⟨h0, some D.b, by rw [f3]; simp, D, hD, rfl⟩
          refine ⟨ι, .tuple #[.bool true, e'.key, e'.val], _, ?_, ι.le_refl, hw, three f1 f2⟩
          rw [e0]
          simp only [Instr.next, Sem.run_bind, run_getMI h2, Result.andThen_ok, run_getMap ho, hbad', Bool.false_eq_true, if_false, hA, hB, hA0, hB0]
          have harr : ((if (#[e'] : Array MapEntry).isEmpty then #[none] else #[]) ++ ((#[e'] : Array MapEntry) ++ #[]).map some) = (#[some e'] : Array (Option MapEntry)) := by simp
          rw [harr]
          have hch : (choose (.mapNext (#[some e'] : Array (Option MapEntry)).size)).run P w = .ok 0 w := by
            rw [run_choose_drew]; rfl
          rw [hch]
          simp only [Result.andThen_ok]
          have hget : (#[some e'] : Array (Option MapEntry))[0]? = some (some e') := rfl
          rw [hget]
          simp only [Sem.run_bind, run_setMI _ h2, Result.andThen_ok, Sem.run_pure]
        · simp at hr
      · simp at hr
  · simp at hr

theorem findB_ok {n : Nat} : ∀ {es : Ents} {es' : List MapEntry} {p : AV × AV}, EntR ι es es' → findB n es = some p → ∃ e', es'.find? (·.born == n) = some e' ∧ VR ι p.1 e'.key ∧ VR ι p.2 e'.val
  | [], es', p, h, hf => by simp [findB] at hf
  | e :: es, [], p, h, hf => by have := h.1; simp at this
  | e :: es, e' :: es', p, h, hf => by
    have h0 := h.2 0 e e' rfl rfl
    have ht : EntR ι es es' := ⟨by have := h.1; simpa using this, fun j x y hx hy => h.2 (j + 1) x y (by simpa using hx) (by simpa using hy)⟩
    simp only [findB] at hf
    rw [h0.2.2] at hf
    cases hb : Nat.beq e'.born n
    · simp only [hb, cond_false] at hf
      obtain ⟨e1, g1, g2⟩ := findB_ok ht hf
      refine ⟨e1, ?_, g2⟩
      rw [List.find?_cons]
      have hne : e'.born ≠ n := by intro e; subst e; simp at hb
      have : (e'.born == n) = false := by simp [hne]
      rw [this]; exact g1
    · simp only [hb, cond_true, Option.some.injEq] at hf; subst hf
      refine ⟨e', ?_, h0.1, h0.2.1⟩
      rw [List.find?_cons]
      have hne := Nat.eq_of_beq_eq_true hb
      have : (e'.born == n) = true := by simp [hne]
      rw [this]

theorem aEntry_ok (h : SR B w0 ι st w) {x r : AV} {x' : Value} (hx : VR ι x x') (hr : aEntry x st = some r) : ∃ v, (Instr.entry x').run P w = .ok v w ∧ VR ι r v := by
  unfold aEntry at hr
  split at hr
  rotate_left
  · simp at hr
  rename_i i
  cases hx with
  | ptr _ _ L hL =>
  split at hr
  rotate_left
  · simp at hr
  rename_i j since seen last hi
  obtain ⟨L', o, h1, h2, h0, m', h3, D, hD, rfl⟩ := h.obj i _ hi (by simp)
  rw [hL] at h1; cases h1
  rw [h3] at h2
  have e0 : L.p + 0 = 0 := by omega
  split at hr
  · simp at hr
  rename_i b hb
  split at hr
  rotate_left
  · simp at hr
  rename_i es c hj
  obtain ⟨es', ho, hent⟩ := map_obj h hj hD
  cases hc : Nat.beq c last
  · simp [hc] at hr
  simp only [hc, cond_true] at hr
  have hc' := Nat.eq_of_beq_eq_true hc
  split at hr
  · rename_i p hp
    simp only [Option.some.injEq] at hr; subst hr
    obtain ⟨e', g1, g2, g3⟩ := findB_ok hent hp
    have g1' : es'.find? (·.born == b) = some e' := by rw [← Array.find?_toList]; exact g1
    have hback : seen.toArray.back? = some b := by simpa using hb
    have hne : (c != last) = false := by rw [hc']; simp
    refine ⟨.tuple #[e'.key, e'.val], ?_, .tuple _ _ rfl (fun i y y' hy hy' => by
      match i with
      | 0 => simp at hy hy'; subst hy; subst hy'; exact g2
      | 1 => simp at hy hy'; subst hy; subst hy'; exact g3
      | i + 2 => simp at hy)⟩
    rw [e0]
    simp only [Instr.entry, Sem.run_bind, run_getMI h2, Result.andThen_ok, hback, run_getMap ho, hne, Bool.false_eq_true, if_false, g1', Sem.run_pure]
  · simp at hr
end

def aBuiltinM (E : Env) (b : Builtin) (ts : List TypeId) (args : List AV) (st : ASt) : Option (AV × ASt) :=
  match b with
  | .delete => match ts with | t :: _ => (match args with | [m, k] => (match aDelete E t m k st with | some st' => some (.tuple [], st') | none => none) | _ => none) | _ => none
  | .clear => match ts with | t :: _ => (match args with | [x] => (match aClear E t x st with | some st' => some (.tuple [], st') | none => none) | _ => none) | _ => none
  | .len =>
    match ts with
    | t :: us => (match args with
      | [x] => (match x with
        | .map (some i) => (match aLenM E t (.map (some i)) st with | some v => some (v, st) | none => none)
        | y => aBuiltin E .len (t :: us) [y] st)
      | l => aBuiltin E .len (t :: us) l st)
    | l => aBuiltin E .len l args st
  | b => aBuiltin E b ts args st

section
variable {P : Program} {E : Env} {B : Prot} {w0 : World} {ι : Ren} {st : ASt} {w : World}

theorem VR.unit : VR ι (.tuple []) (.tuple #[]) := .tuple [] #[] rfl (fun i v v' h => by simp at h)

theorem aBuiltinM_ok (hE : E.Ok P) (h : SR B w0 ι st w) {b : Builtin} {ts : List TypeId} {rT : TypeId} {cs : Array Bool} {args : List AV} {args' : Array Value} {r : AV × ASt} (ha : VRs ι args args')
    (hr : aBuiltinM E b ts args st = some r) :
    ∃ ι' v w', (builtin b ts.toArray rT cs args').run P w = .ok (.value v) w' ∧ ι.le ι' ∧ SR B w0 ι' r.2 w' ∧ VR ι' r.1 v := by
  unfold aBuiltinM at hr
  split at hr
  · split at hr
    · rename_i t us
      split at hr
      · split at hr
        · rename_i st' hd
          simp only [Option.some.injEq] at hr; subst hr
          obtain ⟨m', k', rfl, h1, h2⟩ := list2 ha
          obtain ⟨w', g1, g2⟩ := aDelete_ok (ts := us) (rT := rT) hE h h1 h2 hd
          exact ⟨ι, _, w', by simp only [builtin, Sem.run_bind, g1, Result.andThen_ok, Sem.run_pure], ι.le_refl, g2, VR.unit⟩
        · simp at hr
      · simp at hr
    · simp at hr
  · split at hr
    · rename_i t us
      split at hr
      · split at hr
        · rename_i st' hd
          simp only [Option.some.injEq] at hr; subst hr
          obtain ⟨x', rfl, h1⟩ := list1 ha
          obtain ⟨w', g1, g2⟩ := aClear_ok (ts := us) (rT := rT) hE h h1 hd
          exact ⟨ι, _, w', by simp only [builtin, Sem.run_bind, g1, Result.andThen_ok, Sem.run_pure], ι.le_refl, g2, VR.unit⟩
        · simp at hr
      · simp at hr
    · simp at hr
  · split at hr
    · rename_i t us
      split at hr
      · split at hr
        · split at hr
          · rename_i v hv
            simp only [Option.some.injEq] at hr; subst hr
            obtain ⟨x', rfl, h1⟩ := list1 ha
            obtain ⟨v', g1, g2⟩ := aLenM_ok (ts := us) (rT := rT) hE h h1 hv
            exact ⟨ι, v', w, by simp only [builtin, Sem.run_bind, g1, Result.andThen_ok, Sem.run_pure], ι.le_refl, h, g2⟩
          · simp at hr
        · exact aBuiltin_ok hE h ha hr
      · exact aBuiltin_ok hE h ha hr
    · exact aBuiltin_ok hE h ha hr
  · exact aBuiltin_ok hE h ha hr
end
end
end Go.Ax
