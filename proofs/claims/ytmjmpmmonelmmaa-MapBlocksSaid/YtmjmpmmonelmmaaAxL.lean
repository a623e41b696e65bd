/-
  OWN WORK, TOLD ONCE FOR ALL TEXTS YtmjmpmmonelmmaaAxA TO YtmjmpmmonelmmaaAxU: an abstract machine for the program's text that the kernel can run, and the proof that it is sound: what it answers is what the program answers. No condition.
-/
import Derived.Test.YtmjmpmmonelmmaaAxK
namespace Go.Ax
noncomputable section
open Go.RowKit

def aCopy (E : Env) (dT : TypeId) (dst src : AV) (st : ASt) : Option (AV × ASt) :=
  match E.ty.get dT with
  | none => none
  | some ti =>
    match ti.desc with
    | .slice e =>
      match E.ty.get e with
      | none => none
      | some ei =>
        match aLen src with
        | none => none
        | some sl =>
          match dst with
          | .slice none dl _ => bif Nat.beq (Nat.min sl dl) 0 then (match aFirst st ei.size 0 src with | some _ => some (.int .i64 (.ofNat 0), st) | none => none) else none
          | .slice0 => match aFirst st ei.size 0 src with | some [] => some (.int .i64 (.ofNat 0), st) | _ => none
          | .slice (some (i, o)) dl _ =>
            let n := Nat.min sl dl
            match aFirst st ei.size n src with
            | none => none
            | some new =>
              match new with
              | [] => some (.int .i64 (.ofNat n), st)
              | _ =>
                match st.h.get i with
                | some (.cells cs true) =>
                  match setL cs o new with
                  | some cs' => some (.int .i64 (.ofNat n), st.put i (.cells cs' true))
                  | none => none
                | _ => none
          | _ => none
    | _ => none

def aLenB (E : Env) (t : TypeId) (x : AV) : Option AV :=
  match E.ty.get t with
  | none => none
  | some ti =>
    match ti.desc with
    | .string => match x with | .str s => some (.int .i64 (.ofNat s.length)) | _ => none
    | .array n _ => some (.int .i64 (.ofNat n))
    | .pointer arr =>
      match E.ty.get arr with
      | some ta => match ta.desc with | .array n _ => some (.int .i64 (.ofNat n)) | _ => none
      | none => none
    | .slice _ => match x with | .slice _ n _ => some (.int .i64 (.ofNat n)) | .slice0 => some (.int .i64 (.ofNat 0)) | _ => none
    | .map _ _ => match x with | .map none => some (.int .i64 (.ofNat 0)) | _ => none
    | _ => none

def aCapB (E : Env) (t : TypeId) (x : AV) : Option AV :=
  match E.ty.get t with
  | none => none
  | some ti =>
    match ti.desc with
    | .slice _ => match x with | .slice _ _ (.known n) => some (.int .i64 (.ofNat n)) | _ => none
    | _ => none

def aMin : AV → List AV → Option AV
  | x, [] => some x
  | .int k x, .int _ y :: r => aMin (.int k (bif ltF y x then y else x)) r
  | _, _ :: _ => none

def aMax : AV → List AV → Option AV
  | x, [] => some x
  | .int k x, .int _ y :: r => aMax (.int k (bif ltF x y then y else x)) r
  | _, _ :: _ => none

def aBuiltin (E : Env) (b : Builtin) (ts : List TypeId) (args : List AV) (st : ASt) : Option (AV × ASt) :=
  match b with
  | .append => match ts, args with | [sT, xT], [s, x] => aAppend E sT xT s x st | _, _ => none
  | .copy => match ts, args with | [dT, _], [d, s] => aCopy E dT d s st | _, _ => none
  | .len => match ts, args with | [t], [x] => (match aLenB E t x with | some v => some (v, st) | none => none) | _, _ => none
  | .cap => match ts, args with | [t], [x] => (match aCapB E t x with | some v => some (v, st) | none => none) | _, _ => none
  | .min => match args with | x :: r => (match aMin x r with | some v => some (v, st) | none => none) | _ => none
  | .max => match args with | x :: r => (match aMax x r with | some v => some (v, st) | none => none) | _ => none
  | _ => none

section
variable {P : Program} {E : Env} {B : Prot} {w0 : World} {ι : Ren} {st : ASt} {w : World}

theorem aBuild_ok (hE : E.Ok P) {t : TypeId} {parts : List (Nat × AV)} {parts' : Array (Nat × Value)} {r : AV} (hm : parts.map (·.1) = parts'.toList.map (·.1))
    (hv : ∀ (k : Nat) p p', parts[k]? = some p → parts'.toList[k]? = some p' → VR ι p.2 p'.2) (hr : aBuild E t parts = some r) :
    ∃ v, (Instr.build t parts').run P w = .ok v w ∧ VR ι r v := by
  simp only [aBuild] at hr
  split at hr
  · simp at hr
  rename_i ti hti
  have hk := mkTI_ok (hE.ty _ _ hti)
  split at hr
  rotate_left
  · simp at hr
  rename_i z hz
  obtain ⟨it, hit, _, _, h3⟩ := hk.inf
  obtain ⟨zv, hzv, hzr⟩ := h3 _ hz
  have hzc := (hzr ι).cells (.inl ⟨z, rfl⟩)
  have hzl : ∃ za, zv = .agg za := by have := hzr ι; cases this; exact ⟨_, rfl⟩
  obtain ⟨za, rfl⟩ := hzl
  have hz1 : VRs ι z za := hzc.1
  split at hr
  · rename_i fs hd
    cases hall : allTy E fs.toList
    · simp only [hall, cond_false, reduceCtorEq] at hr
    simp only [hall, cond_true] at hr
    split at hr
    · rename_i cs hcs
      simp only [Option.some.injEq] at hr; subst hr
      have places : ∀ (l : List Field), allTy E l = true → ∃ pl, l.mapM (fun (f : Field) => (P.info? f.type).map fun i => (f.offset, i.size)) = some pl ∧
          ∀ (i : Nat) x, placeOf E l[i]? = some x → pl[i]? = some x := by
        intro l
        induction l with
        | nil => intro _; exact ⟨[], rfl, fun i x h => by simp [placeOf] at h⟩
        | cons f l ih =>
          intro h
          simp only [allTy] at h
          split at h
          · rename_i fi hfi
            obtain ⟨pl, p1, p2⟩ := ih h
            obtain ⟨j, hj, hj1, _⟩ := (mkTI_ok (hE.ty _ _ hfi)).inf
            refine ⟨(f.offset, j.size) :: pl, by simp [List.mapM_cons, hj, p1], fun i x hx => ?_⟩
            cases i with
            | zero => simp [placeOf, hfi] at hx; subst hx; simp [hj1]
            | succ i => simp at hx ⊢; exact p2 i x hx
          · simp at h
      obtain ⟨pl, p1, p2⟩ := places fs.toList hall
      obtain ⟨cs', f1, f2, f3⟩ := aFill_ok (place' := (pl.toArray[·]?)) (fun i x hx => by
        have := p2 i x (by simpa using hx)
        simpa using this) parts parts'.toList z cs za hm hv hz1 hzc.2 hcs
      refine ⟨.agg cs', run_build w t parts' cs' ?_, .agg _ _ f2.size f3 f2.at_⟩
      simp only [Program.built, hit, hk.und, hd, hzv, p1, Value.cells]
      exact f1
    · simp at hr
  · rename_i n e hd
    split at hr
    rotate_left
    · simp at hr
    rename_i ei hei
    split at hr
    · rename_i cs hcs
      simp only [Option.some.injEq] at hr; subst hr
      obtain ⟨j, hj, hj1, _⟩ := (mkTI_ok (hE.ty _ _ hei)).inf
      obtain ⟨cs', f1, f2, f3⟩ := aFill_ok (place' := fun i => some (i * ei.size, ei.size)) (fun i x hx => hx) parts parts'.toList z cs za hm hv hz1 hzc.2 hcs
      refine ⟨.agg cs', run_build w t parts' cs' ?_, .agg _ _ f2.size f3 f2.at_⟩
      simp only [Program.built, hit, hk.und, hd, hzv, hj, hj1, Value.cells]
      exact f1
    · simp at hr
  · simp at hr

theorem aBuildSlice_ok (hE : E.Ok P) (h : SR B w0 ι st w) {t : TypeId} {n : Nat} {parts : List (Nat × AV)} {parts' : Array (Nat × Value)} {r : AV × ASt} (hm : parts.map (·.1) = parts'.toList.map (·.1))
    (hv : ∀ (k : Nat) p p', parts[k]? = some p → parts'.toList[k]? = some p' → VR ι p.2 p'.2) (hr : aBuildSlice E t n parts st = some r) :
    Did P B w0 ι w (Instr.buildSlice t n parts') r := by
  simp only [aBuildSlice] at hr
  split at hr
  · simp at hr
  rename_i ti hti
  have hk := (mkTI_ok (hE.ty _ _ hti)).run_und w
  split at hr
  rotate_left
  · simp at hr
  rename_i e hd
  rw [hd] at hk
  split at hr
  · simp at hr
  rename_i ei hei
  split at hr
  · simp at hr
  rename_i z hz
  have fin : ((∀ vs, z ≠ .tuple vs) ∧ z ≠ .any) → (bif Nat.beq (cellsOf z).length ei.size then
              bif Nat.ble (n * ei.size) 16777216 then
                match aFill (fun i => some (i * ei.size, ei.size)) (repL (cellsOf z) n) parts with
                | some cs => some (AV.slice (some (st.next, 0)) n (.known n), st.add (.cells cs true))
                | none => none
              else none
            else none) = some r → Did P B w0 ι w (Instr.buildSlice t n parts') r := by
    clear hr
    intro hnt hr
    cases hbz : Nat.beq (cellsOf z).length ei.size
    · simp only [hbz, cond_false, reduceCtorEq] at hr
    cases hble : Nat.ble (n * ei.size) 16777216
    · simp only [hbz, hble, cond_true, cond_false, reduceCtorEq] at hr
    simp only [hbz, hble, cond_true] at hr
    have hsz := Nat.eq_of_beq_eq_true hbz
    have hle := ble_le hble
    split at hr
    · rename_i cs hcs
      simp only [Option.some.injEq] at hr; subst hr
      obtain ⟨zv, k7, hzv2, hzv3⟩ := zero_cells2 hE hei hz hnt
      have hzs : zv.cells.size = ei.size := by rw [← (hzv2 ι).size, hsz]
      have hs := (mkTI_ok (hE.ty _ _ hei)).run_size w
      obtain ⟨cs', f1, f2, f3⟩ := aFill_ok (place' := fun i => some (i * ei.size, ei.size)) (fun i x hx => hx) parts parts'.toList (repL (cellsOf z) n) cs _ hm hv (repL_VRs (hzv2 ι) n) (repL_cell hzv3 n) hcs
      obtain ⟨ι', q1, q2, q3, q4⟩ := newRow_ok (P := P) h e f2 f3
      refine ⟨ι', .slice (some ⟨w.heap.size, 0, none⟩) n n, _, ?_, q2, q3, .slice _ _ _ _ _ _ q4 rfl (Nat.le_refl _)⟩
      have hle' : ¬ (n * ei.size > 2 ^ 24) := by rw [pow_vals.2]; omega
      rw [hzs] at f1
      by_cases h0 : n * ei.size = 0
      · rw [h0] at f1
        have er : Array.range 0 = #[] := rfl
        have hle0 : ¬ ((0 : Nat) > 2 ^ 24) := by decide
        simp only [er, Array.map_empty] at f1
        simp only [Instr.buildSlice, Sem.run_bind, hk, Result.andThen_ok, hs, Sem.run_ite, hle0, if_false, h0, if_true, Sem.run_pure, er, Array.map_empty, f1, q1]
      · simp only [Instr.buildSlice, Sem.run_bind, hk, Result.andThen_ok, hs, Sem.run_ite, hle', if_false, h0, Sem.run_pure, k7, hzs, f1, q1]
    · simp at hr
  cases z <;> first | (simp at hr; done) | exact fin ⟨by simp, by simp⟩ hr

theorem aCopy_ok (hE : E.Ok P) (h : SR B w0 ι st w) {dT sT rT : TypeId} {dst src : AV} {dst' src' : Value} {r : AV × ASt} (hd : VR ι dst dst') (hs : VR ι src src')
    (hr : aCopy E dT dst src st = some r) : Did P B w0 ι w (Builtin.copy_ #[dT, sT] rT #[dst', src']) r := by
  simp only [aCopy] at hr
  split at hr
  · simp at hr
  rename_i ti hti
  have hk := (mkTI_ok (hE.ty _ _ hti)).run_und w
  split at hr
  rotate_left
  · simp at hr
  rename_i e he
  rw [he] at hk
  split at hr
  · simp at hr
  rename_i ei hei
  have hsz := (mkTI_ok (hE.ty _ _ hei)).run_size w
  split at hr
  · simp at hr
  rename_i sl hsl
  have hln := aLen_ok (P := P) (w := w) hs hsl
  have run : ∀ (base : Option Addr) (dl c : Nat) (rn : Array Value), (Builtin.firstCells ei.size (Nat.min sl dl) src').run P w = .ok rn w →
      (Builtin.copy_ #[dT, sT] rT #[.slice base dl c, src']).run P w =
        (((match base with | some a => storeCells a rn.toList | none => pure ()) : Sem Unit).run P w).andThen fun _ w' => .ok (goInt (Nat.min sl dl : Nat)) w' := by
    intro base dl c rn hrn
    unfold Builtin.copy_
    simp only [List.getElem?_toArray, List.getElem?_cons_zero, List.getElem?_cons_succ, Sem.run_bind, hk, hln, Result.andThen_ok, hsz, hrn]
    cases base <;> simp only [Sem.run_bind, Sem.run_pure] <;> rfl
  split at hr
  · rename_i dl c
    cases hd
    cases h0 : Nat.beq (Nat.min sl 0) 0
    · simp only [h0, cond_false, reduceCtorEq] at hr
    simp only [h0, cond_true] at hr
    split at hr
    · rename_i l hl
      simp only [Option.some.injEq] at hr; subst hr
      have e0 : Nat.min sl 0 = 0 := Nat.eq_of_beq_eq_true h0
      obtain ⟨rn, h1, h2, h3⟩ := aFirst_ok (P := P) h hs hl
      refine ⟨ι, goInt 0, w, ?_, ι.le_refl, h, .int _ _⟩
      rw [run none 0 0 rn (by rw [e0]; exact h1), e0]; rfl
    · simp at hr
  · cases hd with
    | slice0 a c =>
      split at hr
      · rename_i hl
        simp only [Option.some.injEq] at hr; subst hr
        obtain ⟨rn, h1, h2, h3⟩ := aFirst_ok (P := P) h hs hl
        have e0 : Nat.min sl 0 = 0 := Nat.min_zero _
        have hnil : rn = #[] := by have := h2.size; simp at this; exact Array.size_eq_zero_iff.1 this.symm
        refine ⟨ι, goInt 0, w, ?_, ι.le_refl, h, .int _ _⟩
        rw [run (some a) 0 c rn (by rw [e0]; exact h1), e0, hnil]; simp [storeCells]
      · simp at hr
  · rename_i i o dl c
    cases hd with
    | slice _ _ _ c' L _ hL hc hl =>
      split at hr
      · simp at hr
      rename_i new hnew
      obtain ⟨rn, h1, h2, h3⟩ := aFirst_ok (P := P) h hs hnew
      split at hr
      · simp only [Option.some.injEq] at hr; subst hr
        have hnil : rn = #[] := by have := h2.size; simp at this; exact Array.size_eq_zero_iff.1 this.symm
        refine ⟨ι, goInt (Nat.min sl dl : Nat), w, ?_, ι.le_refl, h, .int _ _⟩
        rw [run _ dl c' rn h1, hnil]; simp [storeCells]
      · split at hr
        · rename_i cs hi
          split at hr
          · rename_i cs' hset
            simp only [Option.some.injEq] at hr; subst hr
            obtain ⟨w', q1, q2⟩ := SR.storeCells (P := P) new rn.toList 0 o cs cs' st w h hi hL (by simpa using hset) (by simpa using h2) h3
            refine ⟨ι, goInt (Nat.min sl dl : Nat), w', ?_, ι.le_refl, q2, .int _ _⟩
            rw [run _ dl c' rn h1]
            simp only [q1, Result.andThen_ok]
          · simp at hr
        · simp at hr
  · simp at hr

theorem aLenB_ok (hE : E.Ok P) {t rT : TypeId} {x r : AV} {x' : Value} (hx : VR ι x x') (hr : aLenB E t x = some r) : ∃ v, (Builtin.len_ #[t] rT #[x']).run P w = .ok v w ∧ VR ι r v := by
  simp only [aLenB] at hr
  split at hr
  · simp at hr
  rename_i ti hti
  have hk := (mkTI_ok (hE.ty _ _ hti)).run_und w
  split at hr
  · rename_i hd
    rw [hd] at hk
    split at hr
    · rename_i s
      cases hx with
      | str _ s' hs =>
        simp only [Option.some.injEq] at hr; subst hr
        refine ⟨goInt s'.size, ?_, ?_⟩
        · simp only [Builtin.len_, List.getElem?_toArray, List.getElem?_cons_zero, Sem.run_bind, hk, Result.andThen_ok, Sem.run_pure]
        · have : s.length = s'.size := by rw [← hs]; simp
          rw [this]; exact .int _ _
    · simp at hr
  · rename_i n e hd
    rw [hd] at hk
    simp only [Option.some.injEq] at hr; subst hr
    refine ⟨goInt n, ?_, .int _ _⟩
    simp only [Builtin.len_, List.getElem?_toArray, List.getElem?_cons_zero, Sem.run_bind, hk, Result.andThen_ok, Sem.run_pure]
  · rename_i arr hd
    rw [hd] at hk
    split at hr
    · rename_i ta hta
      have hk2 := (mkTI_ok (hE.ty _ _ hta)).run_und w
      split at hr
      · rename_i n e hd2
        rw [hd2] at hk2
        simp only [Option.some.injEq] at hr; subst hr
        refine ⟨goInt n, ?_, .int _ _⟩
        simp only [Builtin.len_, List.getElem?_toArray, List.getElem?_cons_zero, Sem.run_bind, hk, hk2, Result.andThen_ok, Sem.run_pure]
      · simp at hr
    · simp at hr
  · rename_i e hd
    rw [hd] at hk
    split at hr
    · rename_i a n c
      simp only [Option.some.injEq] at hr; subst hr
      cases hx
      · exact ⟨goInt (0 : Nat), by simp only [Builtin.len_, List.getElem?_toArray, List.getElem?_cons_zero, Sem.run_bind, hk, Result.andThen_ok, Sem.run_pure], .int _ _⟩
      · exact ⟨goInt n, by simp only [Builtin.len_, List.getElem?_toArray, List.getElem?_cons_zero, Sem.run_bind, hk, Result.andThen_ok, Sem.run_pure], .int _ _⟩
    · simp only [Option.some.injEq] at hr; subst hr
      cases hx with
      | slice0 a c => exact ⟨goInt (0 : Nat), by simp only [Builtin.len_, List.getElem?_toArray, List.getElem?_cons_zero, Sem.run_bind, hk, Result.andThen_ok, Sem.run_pure], .int _ _⟩
    · simp at hr
  · rename_i k e hd
    rw [hd] at hk
    split at hr
    · simp only [Option.some.injEq] at hr; subst hr
      cases hx
      exact ⟨goInt 0, by simp only [Builtin.len_, List.getElem?_toArray, List.getElem?_cons_zero, Sem.run_bind, hk, Result.andThen_ok, Sem.run_pure], .int _ _⟩
    · simp at hr
  · simp at hr

theorem aCapB_ok (hE : E.Ok P) {t rT : TypeId} {x r : AV} {x' : Value} (hx : VR ι x x') (hr : aCapB E t x = some r) : ∃ v, (Builtin.cap_ #[t] rT #[x']).run P w = .ok v w ∧ VR ι r v := by
  simp only [aCapB] at hr
  split at hr
  · simp at hr
  rename_i ti hti
  have hk := (mkTI_ok (hE.ty _ _ hti)).run_und w
  split at hr
  · rename_i e hd
    rw [hd] at hk
    split at hr
    · rename_i a n c
      simp only [Option.some.injEq] at hr; subst hr
      cases hx with
      | sliceN => exact ⟨goInt (0 : Nat), by simp only [Builtin.cap_, List.getElem?_toArray, List.getElem?_cons_zero, Sem.run_bind, hk, Result.andThen_ok, Sem.run_pure], .int _ _⟩
      | slice i o _ c' L _ hL hc hl =>
        have hc : c = c' := hc
        subst hc
        exact ⟨goInt c, by simp only [Builtin.cap_, List.getElem?_toArray, List.getElem?_cons_zero, Sem.run_bind, hk, Result.andThen_ok, Sem.run_pure], .int _ _⟩
    · simp at hr
  · simp at hr

theorem aMin_ok : ∀ (l : List AV) (l' : List Value) (x r : AV) (x' : Value), VR ι x x' → VRs ι l l'.toArray → aMin x l = some r → ∃ v, (l'.foldlM Builtin.min2 x').run P w = .ok v w ∧ VR ι r v
  | [], l', x, r, x', hx, hl, h => by
    have : l' = [] := by have := hl.size; simp at this; exact List.length_eq_zero_iff.1 this.symm
    subst this
    simp [aMin] at h; subst h
    exact ⟨x', by simp, hx⟩
  | y :: l, [], x, r, x', hx, hl, h => by have := hl.size; simp at this
  | y :: l, y' :: l', x, r, x', hx, hl, h => by
    have hy := hl.at_ 0 y y' rfl (by simp)
    have hl' : VRs ι l l'.toArray := ⟨by have := hl.size; simp at this; simpa using this, fun j a b ha hb => hl.at_ (j + 1) a b (by simpa using ha) (by simpa using hb)⟩
    cases hx with
    | int k n =>
      cases hy with
      | int k' m =>
        simp only [aMin] at h
        obtain ⟨v, h1, h2⟩ := aMin_ok l l' _ r (.int k (if m < n then m else n)) (by
          rw [ltF_eq]
          by_cases c : m < n <;> simp [c] <;> exact .int _ _) hl' h
        exact ⟨v, by simp only [List.foldlM_cons, Builtin.min2, Sem.run_bind, Sem.run_pure, Result.andThen_ok, h1], h2⟩
      | _ => simp [aMin] at h
    | _ => simp [aMin] at h

theorem aMax_ok : ∀ (l : List AV) (l' : List Value) (x r : AV) (x' : Value), VR ι x x' → VRs ι l l'.toArray → aMax x l = some r → ∃ v, (l'.foldlM Builtin.max2 x').run P w = .ok v w ∧ VR ι r v
  | [], l', x, r, x', hx, hl, h => by
    have : l' = [] := by have := hl.size; simp at this; exact List.length_eq_zero_iff.1 this.symm
    subst this
    simp [aMax] at h; subst h
    exact ⟨x', by simp, hx⟩
  | y :: l, [], x, r, x', hx, hl, h => by have := hl.size; simp at this
  | y :: l, y' :: l', x, r, x', hx, hl, h => by
    have hy := hl.at_ 0 y y' rfl (by simp)
    have hl' : VRs ι l l'.toArray := ⟨by have := hl.size; simp at this; simpa using this, fun j a b ha hb => hl.at_ (j + 1) a b (by simpa using ha) (by simpa using hb)⟩
    cases hx with
    | int k n =>
      cases hy with
      | int k' m =>
        simp only [aMax] at h
        obtain ⟨v, h1, h2⟩ := aMax_ok l l' _ r (.int k (if m > n then m else n)) (by
          rw [ltF_eq]
          by_cases c : n < m <;> simp [c] <;> exact .int _ _) hl' h
        exact ⟨v, by simp only [List.foldlM_cons, Builtin.max2, Sem.run_bind, Sem.run_pure, Result.andThen_ok, h1], h2⟩
      | _ => simp [aMax] at h
    | _ => simp [aMax] at h

theorem list2 {a b : AV} {r : Array Value} (h : VRs ι [a, b] r) : ∃ a' b', r = #[a', b'] ∧ VR ι a a' ∧ VR ι b b' := by
  have hs := h.size
  simp at hs
  match r, hs with
  | ⟨[x, y]⟩, _ => exact ⟨x, y, rfl, h.at_ 0 a x rfl (by simp), h.at_ 1 b y rfl (by simp)⟩

theorem list1 {a : AV} {r : Array Value} (h : VRs ι [a] r) : ∃ a', r = #[a'] ∧ VR ι a a' := by
  have hs := h.size
  simp at hs
  match r, hs with
  | ⟨[x]⟩, _ => exact ⟨x, rfl, h.at_ 0 a x rfl (by simp)⟩

theorem aBuiltin_ok (hE : E.Ok P) (h : SR B w0 ι st w) {b : Builtin} {ts : List TypeId} {rT : TypeId} {cs : Array Bool} {args : List AV} {args' : Array Value} {r : AV × ASt} (ha : VRs ι args args')
    (hr : aBuiltin E b ts args st = some r) :
    ∃ ι' v w', (builtin b ts.toArray rT cs args').run P w = .ok (.value v) w' ∧ ι.le ι' ∧ SR B w0 ι' r.2 w' ∧ VR ι' r.1 v := by
  have lift : ∀ {s : Sem Value}, Did P B w0 ι w s r → ∃ ι' v w', (do pure (.value (← s)) : Sem Next).run P w = .ok (.value v) w' ∧ ι.le ι' ∧ SR B w0 ι' r.2 w' ∧ VR ι' r.1 v := by
    intro s ⟨ι', v, w', h1, h2, h3, h4⟩
    exact ⟨ι', v, w', by simp only [Sem.run_bind, h1, Result.andThen_ok, Sem.run_pure], h2, h3, h4⟩
  have still : ∀ {s : Sem Value} {x : AV}, (∃ v, s.run P w = .ok v w ∧ VR ι x v) → r = (x, st) → Did P B w0 ι w s r := by
    intro s x ⟨v, h1, h2⟩ e
    subst e
    exact ⟨ι, v, w, h1, ι.le_refl, h, h2⟩
  unfold aBuiltin at hr
  split at hr
  · split at hr
    · obtain ⟨a', b', rfl, h1, h2⟩ := list2 ha
      exact lift (aAppend_ok hE h h1 h2 hr)
    · simp at hr
  · split at hr
    · obtain ⟨a', b', rfl, h1, h2⟩ := list2 ha
      exact lift (aCopy_ok hE h h1 h2 hr)
    · simp at hr
  · split at hr
    · obtain ⟨a', rfl, h1⟩ := list1 ha
      split at hr
      · rename_i v hv
        simp only [Option.some.injEq] at hr
        exact lift (still (aLenB_ok (rT := rT) hE h1 hv) hr.symm)
      · simp at hr
    · simp at hr
  · split at hr
    · obtain ⟨a', rfl, h1⟩ := list1 ha
      split at hr
      · rename_i v hv
        simp only [Option.some.injEq] at hr
        exact lift (still (aCapB_ok (rT := rT) hE h1 hv) hr.symm)
      · simp at hr
    · simp at hr
  · split at hr
    · rename_i x l
      split at hr
      · rename_i v hv
        simp only [Option.some.injEq] at hr
        have hs := ha.size
        match args', hs, ha with
        | ⟨x' :: l'⟩, _, ha =>
          have hx := ha.at_ 0 x x' rfl (by simp)
          have hl' : VRs ι l l'.toArray := ⟨by have := ha.size; simp at this; simpa using this, fun j a b ha' hb => ha.at_ (j + 1) a b (by simpa using ha') (by simpa using hb)⟩
          exact lift (s := Builtin.min_ ts.toArray rT ⟨x' :: l'⟩) (still (aMin_ok l l' x v x' hx hl' hv) hr.symm)
      · simp at hr
    · simp at hr
  · split at hr
    · rename_i x l
      split at hr
      · rename_i v hv
        simp only [Option.some.injEq] at hr
        have hs := ha.size
        match args', hs, ha with
        | ⟨x' :: l'⟩, _, ha =>
          have hx := ha.at_ 0 x x' rfl (by simp)
          have hl' : VRs ι l l'.toArray := ⟨by have := ha.size; simp at this; simpa using this, fun j a b ha' hb => ha.at_ (j + 1) a b (by simpa using ha') (by simpa using hb)⟩
          exact lift (s := Builtin.max_ ts.toArray rT ⟨x' :: l'⟩) (still (aMax_ok l l' x v x' hx hl' hv) hr.symm)
      · simp at hr
    · simp at hr
  · simp at hr
end
end
end Go.Ax
