/-
  OWN WORK, TOLD ONCE FOR ALL TEXTS YtmjmpmmonelmmaaAxA TO YtmjmpmmonelmmaaAxU: an abstract machine for the program's text that the kernel can run, and the proof that it is sound: what it answers is what the program answers. No condition.
-/
import Derived.Test.YtmjmpmmonelmmaaAxI
namespace Go.Ax
noncomputable section
open Go.RowKit

/-! ### Rows of noughts -/
def repL (z : List AV) : Nat → List AV
  | 0 => []
  | n + 1 => z ++ repL z n

theorem repL_len (z : List AV) : ∀ n, (repL z n).length = n * z.length
  | 0 => by simp [repL]
  | n + 1 => by simp [repL, repL_len z n, Nat.add_mul]; omega

theorem repL_get (z : List AV) : ∀ n i, i < n * z.length → (repL z n)[i]? = z[i % z.length]?
  | 0, i, h => by omega
  | n + 1, i, h => by
    simp only [repL]
    by_cases hi : i < z.length
    · rw [List.getElem?_append_left hi, Nat.mod_eq_of_lt hi]
    · have hi' : z.length ≤ i := by omega
      rw [List.getElem?_append_right hi', repL_get z n (i - z.length) (by rw [Nat.add_mul] at h; omega)]
      congr 1
      rw [Nat.mod_eq_sub_mod hi']

theorem repL_cell {z : List AV} (hz : ∀ v, v ∈ z → v.isCell = true) : ∀ n v, v ∈ repL z n → v.isCell = true
  | 0, v, h => by simp [repL] at h
  | n + 1, v, h => by
    simp only [repL, List.mem_append] at h
    rcases h with h | h
    · exact hz v h
    · exact repL_cell hz n v h

theorem repL_VRs {ι : Ren} {z : List AV} {z' : Array Value} (h : VRs ι z z') (n : Nat) :
    VRs ι (repL z n) ((Array.range (n * z'.size)).map (z'[· % z'.size]!)) := by
  refine ⟨by rw [repL_len, h.size]; simp, fun i v v' hv hv' => ?_⟩
  have hi : i < n * z.length := by have := (List.getElem?_eq_some_iff.1 hv).1; rw [repL_len] at this; exact this
  rw [repL_get z n i hi] at hv
  have hi' : i < n * z'.size := by rw [← h.size]; exact hi
  simp [hi'] at hv'
  have hpos : 0 < z'.size := by
    rcases Nat.eq_zero_or_pos z'.size with e | e
    · rw [e] at hi'; simp at hi'
    · exact e
  have hm : i % z'.size < z'.size := Nat.mod_lt _ hpos
  rw [getElem!_pos z' _ hm] at hv'
  rw [h.size] at hv
  exact h.at_ _ v v' hv (by rw [Array.getElem?_eq_getElem hm, hv'])

/-! ### make -/
def aMake (E : Env) (t : TypeId) (len cap : AV) (st : ASt) : Option (AV × ASt) :=
  match E.ty.get t with
  | none => none
  | some ti =>
    match ti.desc with
    | .slice e =>
      match E.ty.get e with
      | none => none
      | some ei =>
        match asN len with
        | none => none
        | some l =>
          match asN cap with
          | none => none
          | some c =>
            match ei.zero with
            | none => none
            | some z =>
              bif Nat.ble (ei.bytes * c) 281474976710656 then
                bif Nat.ble l c then
                  bif Nat.blt c 9223372036854775808 then
                    match z with
                    | .tuple _ => none
                    | .any => none
                    | _ => bif Nat.beq (cellsOf z).length ei.size then some (.slice (some (st.next, 0)) l (.known c), st.add (.cells (repL (cellsOf z) c) true)) else none
                  else none
                else none
              else none
    | _ => none

/-! ### literals -/
def aFill (place : Nat → Option (Nat × Nat)) (cells : List AV) : List (Nat × AV) → Option (List AV)
  | [] => some cells
  | (i, v) :: rest =>
    match place i with
    | none => none
    | some (off, size) =>
      match v with
      | .tuple _ => none
      | .any => none
      | _ =>
        bif Nat.beq (cellsOf v).length size then
          bif Nat.beq size 0 then none else
          match setL cells off (cellsOf v) with
          | some cells' => aFill place cells' rest
          | none => none
        else none

def allTy (E : Env) : List Field → Bool
  | [] => true
  | f :: fs => match E.ty.get f.type with | some _ => allTy E fs | none => false

def placeOf (E : Env) : Option Field → Option (Nat × Nat)
  | some f => match E.ty.get f.type with | some fi => some (f.offset, fi.size) | none => none
  | none => none

def aBuild (E : Env) (t : TypeId) (parts : List (Nat × AV)) : Option AV :=
  match E.ty.get t with
  | none => none
  | some ti =>
    match ti.zero with
    | some (.agg z) =>
      match ti.desc with
      | .struct fs =>
        bif allTy E fs.toList then
          match aFill (fun i => placeOf E fs[i]?) z parts with
          | some cs => some (.agg cs)
          | none => none
        else none
      | .array _ e =>
        match E.ty.get e with
        | some ei =>
          match aFill (fun i => some (i * ei.size, ei.size)) z parts with
          | some cs => some (.agg cs)
          | none => none
        | none => none
      | _ => none
    | _ => none

def aBuildSlice (E : Env) (t : TypeId) (len : Nat) (parts : List (Nat × AV)) (st : ASt) : Option (AV × ASt) :=
  match E.ty.get t with
  | none => none
  | some ti =>
    match ti.desc with
    | .slice e =>
      match E.ty.get e with
      | none => none
      | some ei =>
        match ei.zero with
        | none => none
        | some z =>
          match z with
          | .tuple _ => none
          | .any => none
          | _ =>
            bif Nat.beq (cellsOf z).length ei.size then
              bif Nat.ble (len * ei.size) 16777216 then
                match aFill (fun i => some (i * ei.size, ei.size)) (repL (cellsOf z) len) parts with
                | some cs => some (.slice (some (st.next, 0)) len (.known len), st.add (.cells cs true))
                | none => none
              else none
            else none
    | _ => none

section
variable {P : Program} {E : Env} {B : Prot} {w0 : World} {ι : Ren} {st : ASt} {w : World}

theorem pow_vals : (2 : Int) ^ 48 = 281474976710656 ∧ (2 : Nat) ^ 24 = 16777216 := by decide

theorem wrap64_small {n : Nat} (h : n < 9223372036854775808) : IntKind.i64.wrap (n : Int) = (n : Int) := by
  rw [← wrapF_eq]
  simp only [wrapF, modN, big, half]
  have e : n % 18446744073709551616 = n := Nat.mod_eq_of_lt (by omega)
  show (bif Nat.blt (n % 18446744073709551616) 9223372036854775808 then Int.ofNat (n % 18446744073709551616) else _) = _
  rw [e, blt_dec]
  simp [h]

theorem notTuple_cells {z : AV} (h : (∀ vs, z ≠ .tuple vs) ∧ z ≠ .any) : (∃ l, z = .agg l) ∨ z.isCell = true := by
  cases z <;> simp_all [AV.isCell]

theorem zero_cells (hE : E.Ok P) {e : TypeId} {ei : TI} {z : AV} (hei : E.ty.get e = some ei) (hz : ei.zero = some z) (hnt : (∀ vs, z ≠ .tuple vs) ∧ z ≠ .any) (w : World) :
    ∃ v, (zeroValue e).run P w = .ok v w ∧ (∀ ι, VRs ι (cellsOf z) v.cells) ∧ ∀ x, x ∈ cellsOf z → x.isCell = true := by
  obtain ⟨v, h1, h2⟩ := (mkTI_ok (hE.ty _ _ hei)).run_zero hz w
  exact ⟨v, h1, fun ι => ((h2 ι).cells (notTuple_cells hnt)).1, ((h2 (fun _ => none)).cells (notTuple_cells hnt)).2⟩

theorem aMake_ok (hE : E.Ok P) (h : SR B w0 ι st w) {t : TypeId} {len cap : AV} {len' cap' : Value} {r : AV × ASt} (hl : VR ι len len') (hc : VR ι cap cap')
    (hr : aMake E t len cap st = some r) : Did P B w0 ι w (Instr.makeSlice t len' cap') r := by
  simp only [aMake] at hr
  split at hr
  · simp at hr
  rename_i ti hti
  have hk := (mkTI_ok (hE.ty _ _ hti)).run_und w
  split at hr
  · rename_i e hd
    rw [hd] at hk
    split at hr
    · simp at hr
    rename_i ei hei
    split at hr
    · simp at hr
    rename_i l hl'
    split at hr
    · simp at hr
    rename_i c hc'
    split at hr
    · simp at hr
    rename_i z hz
    obtain ⟨kl, rfl⟩ := asN_ok hl hl'
    obtain ⟨kc, rfl⟩ := asN_ok hc hc'
    cases h1 : Nat.ble (ei.bytes * c) 281474976710656
    · simp only [h1, cond_false, reduceCtorEq] at hr
    cases h2 : Nat.ble l c
    · simp only [h1, h2, cond_true, cond_false, reduceCtorEq] at hr
    cases h3 : Nat.blt c 9223372036854775808
    · simp only [h1, h2, h3, cond_true, cond_false, reduceCtorEq] at hr
    simp only [h1, h2, h3, cond_true] at hr
    have g1 := ble_le h1
    have g2 := ble_le h2
    have g3 : c < 9223372036854775808 := by rw [← Nat.blt_eq]; exact h3
    have fin : ((∀ vs, z ≠ .tuple vs) ∧ z ≠ .any) → (bif Nat.beq (cellsOf z).length ei.size then some (AV.slice (some (st.next, 0)) l (.known c), st.add (.cells (repL (cellsOf z) c) true)) else none) = some r →
        Did P B w0 ι w (Instr.makeSlice t (.int kl (l : Int)) (.int kc (c : Int))) r := by
      intro hnt hr
      cases hb : Nat.beq (cellsOf z).length ei.size
      · simp only [hb, cond_false, reduceCtorEq] at hr
      simp only [hb, cond_true, Option.some.injEq] at hr
      have hsz := Nat.eq_of_beq_eq_true hb
      obtain ⟨v, hv1, hv2, hv3⟩ := zero_cells hE hei hz hnt w
      obtain ⟨i, hi1, hi2, hi3⟩ := (mkTI_ok (hE.ty _ _ hei)).run_info w
      have hvs : v.cells.size = ei.size := by rw [← (hv2 ι).size, hsz]
      let zr : Array Value := if c * ei.size = 0 then #[] else v.cells
      have hrow : ((Array.range (c * ei.size)).map (zr[· % zr.size]!)) = ((Array.range (c * v.cells.size)).map (v.cells[· % v.cells.size]!)) := by
        rw [hvs]
        by_cases h0 : c * ei.size = 0
        · rw [h0]; simp
        · simp only [zr, h0, if_false, hvs]
      obtain ⟨ι', q1, q2, q3, q4⟩ := newRow_ok (P := P) h e (repL_VRs (hv2 ι) c) (repL_cell hv3 c)
      subst hr
      refine ⟨ι', .slice (some ⟨w.heap.size, 0, none⟩) l c, _, ?_, q2, q3, ?_⟩
      · have w1 := wrap64_small g3
        have w2 : IntKind.i64.wrap (l : Int) = (l : Int) := wrap64_small (by omega)
        have hb1 : ((i.bytes : Int) * (c : Int) > 281474976710656) = False := by
          rw [hi2]; have : ((ei.bytes * c : Nat) : Int) = (ei.bytes : Int) * (c : Int) := by simp
          rw [← this]; simp; omega
        have hs := (mkTI_ok (hE.ty _ _ hei)).run_size w
        have hlt0 : ¬ ((c : Int) < 0) := by omega
        have hlt1 : ¬ ((l : Int) < 0) := by omega
        have hlt2 : ¬ ((l : Int) > (c : Int)) := by omega
        by_cases h0 : c * ei.size = 0
        · simp only [zr, h0, if_true] at hrow
          rw [← hrow] at q1 ⊢
          simp only [Instr.makeSlice, asInt, asIntOf, Sem.run_bind, hk, Sem.run_pure, Result.andThen_ok, hi1, w1, w2, pow_vals.1, hb1, decide_false, Bool.or_false, hlt0, hlt1, hlt2, Bool.false_eq_true,
            if_false, run_askRoom, hs, Int.toNat_natCast, h0, if_true, q1]
        · simp only [zr, h0, if_false] at hrow
          rw [← hrow] at q1 ⊢
          simp only [Instr.makeSlice, asInt, asIntOf, Sem.run_bind, hk, Sem.run_pure, Result.andThen_ok, hi1, w1, w2, pow_vals.1, hb1, decide_false, Bool.or_false, hlt0, hlt1, hlt2, Bool.false_eq_true,
            if_false, run_askRoom, hs, Int.toNat_natCast, h0, hv1, q1]
      · exact .slice _ _ _ _ _ _ q4 rfl g2
    cases z <;> first | (simp at hr; done) | exact fin ⟨by simp, by simp⟩ hr
  · simp at hr

/-! ### filling -/
theorem foldl_set (off : Nat) : ∀ (vs : List Value) (k : Nat) (cells : Array Value) (i : Nat), off + k + vs.length ≤ cells.size →
    ((vs.zipIdx k).foldl (fun (cs : Array Value) (c : Value × Nat) => cs.setIfInBounds (off + c.2) c.1) cells)[i]? =
      if off + k ≤ i ∧ i < off + k + vs.length then vs[i - (off + k)]? else cells[i]?
  | [], k, cells, i, h => by simp; omega
  | v :: vs, k, cells, i, h => by
    simp only [List.zipIdx_cons, List.foldl_cons]
    rw [foldl_set off vs (k + 1) (cells.setIfInBounds (off + k) v) i (by simp at h ⊢; omega)]
    simp only [List.length_cons] at h ⊢
    by_cases h1 : off + (k + 1) ≤ i ∧ i < off + (k + 1) + vs.length
    · have h2 : off + k ≤ i ∧ i < off + k + (vs.length + 1) := by omega
      simp only [h1, h2, and_self, if_true]
      have : i - (off + k) = (i - (off + (k + 1))) + 1 := by omega
      rw [this, List.getElem?_cons_succ]
    · simp only [h1, if_false]
      rw [Array.getElem?_setIfInBounds]
      by_cases h3 : off + k = i
      · subst h3
        have : off + k < cells.size := by omega
        simp [this]
      · have h4 : ¬ (off + k ≤ i ∧ i < off + k + (vs.length + 1)) := by omega
        simp [h3, h4]

theorem foldl_set_size (off : Nat) : ∀ (vs : List (Value × Nat)) (cells : Array Value), (vs.foldl (fun (cs : Array Value) (c : Value × Nat) => cs.setIfInBounds (off + c.2) c.1) cells).size = cells.size
  | [], cells => rfl
  | v :: vs, cells => by simp only [List.foldl_cons]; rw [foldl_set_size off vs]; simp

theorem setL_get : ∀ (vs cs cs' : List AV) (o : Nat), setL cs o vs = some cs' → (∀ i, cs'[i]? = if o ≤ i ∧ i < o + vs.length then vs[i - o]? else cs[i]?) ∧ cs'.length = cs.length ∧ (vs ≠ [] → o + vs.length ≤ cs.length)
  | [], cs, cs', o, h => by
    rw [setL_nil] at h; cases h
    exact ⟨fun i => by simp; omega, rfl, fun h => absurd rfl h⟩
  | v :: vs, cs, cs', o, h => by
    obtain ⟨h1, h2⟩ := setL_cons _ _ _ _ _ h
    obtain ⟨h3, h4, h5⟩ := setL_get vs _ _ _ h2
    refine ⟨fun i => ?_, by rw [h4]; simp, fun _ => ?_⟩
    · rw [h3 i]
      simp only [List.length_cons]
      by_cases c1 : o + 1 ≤ i ∧ i < o + 1 + vs.length
      · have c2 : o ≤ i ∧ i < o + (vs.length + 1) := by omega
        simp only [c1, c2, and_self, if_true]
        have : i - o = (i - (o + 1)) + 1 := by omega
        rw [this, List.getElem?_cons_succ]
      · simp only [c1, if_false]
        rw [List.getElem?_set]
        by_cases c3 : o = i
        · subst c3; simp [h1]
        · have c4 : ¬ (o ≤ i ∧ i < o + (vs.length + 1)) := by omega
          simp [c3, c4]
    · by_cases hn : vs = []
      · subst hn; simp; omega
      · have := h5 hn; simp at this ⊢; omega

theorem aFill_ok {place place' : Nat → Option (Nat × Nat)} (hp : ∀ i x, place i = some x → place' i = some x) :
    ∀ (parts : List (Nat × AV)) (parts' : List (Nat × Value)) (cells cs : List AV) (cells' : Array Value), parts.map (·.1) = parts'.map (·.1) →
      (∀ (k : Nat) p p', parts[k]? = some p → parts'[k]? = some p' → VR ι p.2 p'.2) → VRs ι cells cells' → (∀ v, v ∈ cells → v.isCell = true) →
      aFill place cells parts = some cs → ∃ cs', Instr.fill place' cells' parts' = some cs' ∧ VRs ι cs cs' ∧ ∀ v, v ∈ cs → v.isCell = true
  | [], parts', cells, cs, cells', hm, hv, hc, hcc, h => by
    simp [aFill] at h; subst h
    have : parts' = [] := by simpa using hm.symm
    subst this
    exact ⟨cells', rfl, hc, hcc⟩
  | (i, v) :: rest, [], cells, cs, cells', hm, hv, hc, hcc, h => by simp at hm
  | (i, v) :: rest, (i', v') :: rest', cells, cs, cells', hm, hv, hc, hcc, h => by
    simp at hm
    obtain ⟨rfl, hm⟩ := hm
    have hvv : VR ι v v' := hv 0 _ _ rfl rfl
    simp only [aFill] at h
    split at h
    · simp at h
    rename_i off size hpl
    have fin : ((∃ l, v = .agg l) ∨ v.isCell = true) → (bif Nat.beq (cellsOf v).length size then
          bif Nat.beq size 0 then none else
          match setL cells off (cellsOf v) with
          | some cells' => aFill place cells' rest
          | none => none
        else none) = some cs → ∃ cs', Instr.fill place' cells' ((i, v') :: rest') = some cs' ∧ VRs ι cs cs' ∧ ∀ v, v ∈ cs → v.isCell = true := by
      intro hcell h
      obtain ⟨g1, g2⟩ := hvv.cells hcell
      cases hb : Nat.beq (cellsOf v).length size
      · simp only [hb, cond_false, reduceCtorEq] at h
      simp only [hb, cond_true] at h
      have hsz := Nat.eq_of_beq_eq_true hb
      have hs0 : Nat.beq size 0 = false := by
        cases hs0 : Nat.beq size 0
        · rfl
        · simp only [hs0, cond_true, reduceCtorEq] at h
      simp only [hs0, cond_false] at h
      have hne0 : size ≠ 0 := by intro e; rw [e] at hs0; simp at hs0
      split at h
      · rename_i cells1 hset
        obtain ⟨s1, s2, s3⟩ := setL_get _ _ _ _ hset
        have hvsz : v'.cells.size = size := by rw [← g1.size, hsz]
        by_cases hbound : off + v'.cells.size ≤ cells'.size
        · have hnew : VRs ι cells1 (v'.cells.zipIdx.foldl (fun cs (c, j) => cs.setIfInBounds (off + j) c) cells') := by
            refine ⟨?_, fun k x x' hx hx' => ?_⟩
            · rw [s2, hc.size, ← Array.foldl_toList]
              have := foldl_set_size off v'.cells.zipIdx.toList cells'
              exact this.symm
            · rw [s1 k] at hx
              rw [← Array.foldl_toList] at hx'
              have e : v'.cells.zipIdx.toList = v'.cells.toList.zipIdx 0 := by simp
              rw [e] at hx'
              have := foldl_set off v'.cells.toList 0 cells' k (by simpa using hbound)
              have hx'' : (if off + 0 ≤ k ∧ k < off + 0 + v'.cells.toList.length then v'.cells.toList[k - (off + 0)]? else cells'[k]?) = some x' := by rw [← this]; exact hx'
              simp only [Nat.add_zero, Array.length_toList] at hx''
              rw [g1.size] at hx
              by_cases hcond : off ≤ k ∧ k < off + v'.cells.size
              · simp only [hcond, and_self, if_true] at hx hx''
                exact g1.at_ _ x x' hx (by simpa using hx'')
              · simp only [hcond, if_false] at hx hx''
                exact hc.at_ k x x' hx hx''
          have hcc1 : ∀ x, x ∈ cells1 → x.isCell = true := by
            intro x hx
            obtain ⟨k, hk, e⟩ := List.getElem_of_mem hx
            have := s1 k
            rw [List.getElem?_eq_getElem hk, e] at this
            split at this
            · exact g2 x (List.mem_of_getElem? this.symm)
            · exact hcc x (List.mem_of_getElem? this.symm)
          obtain ⟨cs', f1, f2, f3⟩ := aFill_ok hp rest rest' cells1 cs _ hm (fun k p p' a b => hv (k + 1) p p' (by simpa using a) (by simpa using b)) hnew hcc1 h
          refine ⟨cs', ?_, f2, f3⟩
          simp only [Instr.fill, hp _ _ hpl]
          have c1 : ¬ (v'.cells.size ≠ size || off + v'.cells.size > cells'.size) = true := by simp [hvsz]; omega
          simp only [c1]
          exact f1
        · exfalso
          apply hbound
          have hn : cellsOf v ≠ [] := by intro e; rw [e] at hsz; simp at hsz; omega
          have := s3 hn
          rw [hc.size, g1.size] at this; exact this
      · simp at h
    cases v <;> first | (simp at h; done) | exact fin (.inr rfl) h | exact fin (.inl ⟨_, rfl⟩) h
end
end
end Go.Ax
