/-
  OWN WORK, TOLD ONCE FOR ALL TEXTS YtmjmpmmonelmmaaAxA TO YtmjmpmmonelmmaaAxU: an abstract machine for the program's text that the kernel can run, and the proof that it is sound: what it answers is what the program answers. No condition.
-/
import Derived.Test.YtmjmpmmonelmmaaAxJ
import Derived.Laws.Tables
namespace Go.Ax
noncomputable section
open Go.RowKit

/-! ### append, copy, len, min, max -/
def aLen (x : AV) : Option Nat :=
  match x with
  | .slice _ n _ => some n
  | .slice0 => some 0
  | .str s => some s.length
  | _ => none

/-- the first n elements, of so many cells each -/
def aFirst (st : ASt) (esz n : Nat) (x : AV) : Option (List AV) :=
  match x with
  | .slice none _ _ => bif Nat.beq n 0 then some [] else none
  | .slice (some (i, o)) _ _ =>
    match st.h.get i with
    | some (.cells cs _) => takeL cs o (n * esz)
    | _ => none
  | .slice0 => bif Nat.beq n 0 then some [] else none
  | .str s => bif Nat.beq esz 1 then some (ofBytes (s.take n)) else none
  | _ => none

/-- is there room in what is known of the array? -/
def inRoom (st : ASt) (i k e : Nat) : Bool :=
  match st.h.get i with
  | some (.cells cs true) => bif Nat.ble k cs.length then Nat.blt 0 e else false
  | _ => false

def aAppendTo (ei : TI) (st : ASt) (s : AV) (n : Nat) (new : List AV) : Option (AV × ASt) :=
  match s with
  | .slice none _ (.known _) =>
    bif Nat.beq n 0 then some (s, st)
    else bif Nat.ble ((2 * n + 200) * ei.bytes) 281474976710656 then
      bif Nat.blt n 4611686018427387904 then some (.slice (some (st.next, 0)) n (.rest ei.size), st.add (.cells new true)) else none
    else none
  | .slice (some (i, o)) l (.known c) =>
    bif Nat.ble (l + n) c then
      bif Nat.beq n 0 then some (s, st)
      else
        match st.h.get i with
        | some (.cells cs true) =>
          match setL cs (o + l * ei.size) new with
          | some cs' => some (.slice (some (i, o)) (l + n) (.known c), st.put i (.cells cs' true))
          | none => none
        | _ => none
    else bif Nat.ble ((2 * (l + n) + 200) * ei.bytes) 281474976710656 then
      bif Nat.blt (l + n) 4611686018427387904 then
        match aFirst st ei.size l s with
        | some old => some (.slice (some (st.next, 0)) (l + n) (.rest ei.size), st.add (.cells (old ++ new) true))
        | none => none
      else none
    else none
  | .slice (some (i, o)) l (.rest zz) =>
    bif Nat.beq n 0 then some (s, st)
    else bif Nat.beq zz ei.size then
      bif inRoom st i (o + (l + n) * ei.size) ei.size then
        match st.h.get i with
        | some (.cells cs true) =>
          match setL cs (o + l * ei.size) new with
          | some cs' => some (.slice (some (i, o)) (l + n) (.rest zz), st.put i (.cells cs' true))
          | none => none
        | _ => none
      else bif Nat.ble ((2 * (l + n) + 200) * ei.bytes) 281474976710656 then
        bif Nat.blt (l + n) 4611686018427387904 then
          match st.h.get i with
          | some (.cells cs true) =>
            match takeL cs o (l * ei.size) with
            | some old => some (.slice (some (st.next, 0)) (l + n) (.rest ei.size), (st.put i .dead).add (.cells (old ++ new) true))
            | none => none
          | _ => none
        else none
      else none
    else none
  | _ => none

def isIntD : TypeDesc → Bool
  | .int _ => true
  | _ => false

def aAppend (E : Env) (sT xT : TypeId) (s x : AV) (st : ASt) : Option (AV × ASt) :=
  match E.ty.get sT with
  | none => none
  | some ti =>
    match E.ty.get xT with
    | none => none
    | some tx =>
      bif isIntD tx.desc then none else
      match ti.desc with
      | .slice e =>
        match E.ty.get e with
        | none => none
        | some ei =>
          match ei.zero with
          | none => none
          | some z =>
            match z with
            | .tuple _ => none
            | .any => none
            | _ =>
              bif Nat.beq (cellsOf z).length ei.size then
                match aLen x with
                | none => none
                | some n =>
                  match aFirst st ei.size n x with
                  | none => none
                  | some new => aAppendTo ei st s n new
              else none
      | _ => none

section
variable {P : Program} {E : Env} {B : Prot} {w0 : World} {ι : Ren} {st : ASt} {w : World}

theorem growBy_le (n : Nat) : ∀ (r c : Nat), c ≤ n + n / 4 + 192 → Builtin.growBy n r c ≤ n + n / 4 + 192
  | 0, c, h => h
  | r + 1, c, h => by
    simp only [Builtin.growBy]
    split
    · exact h
    · exact growBy_le n r _ (by omega)

theorem nextcap_le {n c : Nat} (h : c < n) : Builtin.nextslicecap n c ≤ 2 * n + 200 := by
  unfold Builtin.nextslicecap
  split
  · omega
  · split
    · omega
    · have := growBy_le n 4 c (by omega); omega

theorem aLen_ok {x : AV} {x' : Value} {n : Nat} (hx : VR ι x x') (h : aLen x = some n) : (Builtin.lenOf x').run P w = .ok n w := by
  cases hx with
  | str l s hs => simp [aLen] at h; subst h; simp [Builtin.lenOf]; rw [← hs]; simp
  | sliceN => simp [aLen] at h; subst h; rfl
  | slice i o l c' L c h1 h2 h3 => simp [aLen] at h; subst h; rfl
  | slice0 a c => simp [aLen] at h; subst h; rfl
  | _ => simp [aLen] at h

theorem aFirst_ok (h : SR B w0 ι st w) {x : AV} {x' : Value} {esz n : Nat} {l : List AV} (hx : VR ι x x') (hf : aFirst st esz n x = some l) : ∃ r, (Builtin.firstCells esz n x').run P w = .ok r w ∧ VRs ι l r ∧ ∀ v, v ∈ l → v.isCell = true := by
  cases hx with
  | str m s hs =>
    simp only [aFirst] at hf
    cases h1 : Nat.beq esz 1
    · simp only [h1, cond_false, reduceCtorEq] at hf
    simp only [h1, cond_true, Option.some.injEq] at hf; subst hf
    have e : (m.take n) = ((s.extract 0 n).data.toList).map UInt8.toNat := by
      rw [ByteArray.data_extract]; simp [← hs, List.map_take]
    refine ⟨(s.extract 0 n).data.map fun b => .int .u8 b.toNat, by simp [Builtin.firstCells], ?_, ?_⟩
    · rw [e, ofBytes_ok]
      refine ⟨by simp, fun i v v' hv hv' => ?_⟩
      simp only [List.getElem?_map, Array.getElem?_map, Array.getElem?_toList] at hv hv'
      cases hb : (s.extract 0 n).data[i]? with
      | none => rw [hb] at hv; simp at hv
      | some b => rw [hb] at hv hv'; simp at hv hv'; subst hv; subst hv'; exact .int _ _
    · rw [e, ofBytes_ok]; intro v hv; obtain ⟨b, _, rfl⟩ := List.mem_map.1 hv; rfl
  | sliceN =>
    simp only [aFirst] at hf
    cases hn : Nat.beq n 0
    · simp only [hn, cond_false, reduceCtorEq] at hf
    · simp only [hn, cond_true, Option.some.injEq] at hf; subst hf
      exact ⟨#[], rfl, ⟨rfl, fun i v v' hv => by simp at hv⟩, by simp⟩
  | slice i o m c' L c hL h2 h3 =>
    simp only [aFirst] at hf
    split at hf
    · rename_i cs rw hi
      obtain ⟨r, h4, h5, h6⟩ := h.loadCells (P := P) hi hf hL
      exact ⟨r, by simp only [Builtin.firstCells]; exact h4, h5, h6⟩
    · simp at hf
  | slice0 a c =>
    simp only [aFirst] at hf
    cases hn : Nat.beq n 0
    · simp only [hn, cond_false, reduceCtorEq] at hf
    · simp only [hn, cond_true, Option.some.injEq] at hf; subst hf
      have := Nat.eq_of_beq_eq_true hn
      subst this
      exact ⟨#[], by simp [Builtin.firstCells, loadCells, loadCellsFrom], ⟨rfl, fun i v v' hv => by simp at hv⟩, by simp⟩
  | _ => simp [aFirst] at hf

theorem VRs.append {l1 l2 : List AV} {r1 r2 : Array Value} (h1 : VRs ι l1 r1) (h2 : VRs ι l2 r2) : VRs ι (l1 ++ l2) (r1 ++ r2) := by
  refine ⟨by simp [h1.size, h2.size], fun i v v' hv hv' => ?_⟩
  by_cases hi : i < l1.length
  · rw [List.getElem?_append_left hi] at hv
    rw [Array.getElem?_append_left (by rw [← h1.size]; exact hi)] at hv'
    exact h1.at_ i v v' hv hv'
  · have hi' : l1.length ≤ i := by omega
    rw [List.getElem?_append_right hi'] at hv
    rw [Array.getElem?_append_right (by rw [← h1.size]; exact hi'), ← h1.size] at hv'
    exact h2.at_ _ v v' hv hv'

/-- the law of what grows: the array is a new one -/
theorem grow_ok (h : SR B w0 ι st w) {e : TypeId} {old new : List AV} {ro rn rest : Array Value} (h1 : VRs ι old ro) (h2 : VRs ι new rn)
    (c1 : ∀ v, v ∈ old → v.isCell = true) (c2 : ∀ v, v ∈ new → v.isCell = true) :
    ∃ ι', (newRow e (ro ++ rn ++ rest)).run P w = .ok ⟨w.heap.size, 0, none⟩ (w.alloc (.cells (ro ++ rn ++ rest) e)) ∧ ι.le ι' ∧
      SR B w0 ι' (st.add (.cells (old ++ new) true)) (w.alloc (.cells (ro ++ rn ++ rest) e)) ∧ ι' st.next = some ⟨w.heap.size, 0, (ro ++ rn ++ rest).size⟩ := by
  have hv := h1.append h2
  obtain ⟨a1, a2, a3⟩ := h.alloc (.cells (old ++ new) true) (.cells (ro ++ rn ++ rest) e) (ro ++ rn ++ rest).size
    ⟨_, e, 0, 0, rfl, rfl, by rw [hv.size]; simp, fun v hv' => by
        simp only [List.mem_append] at hv'; rcases hv' with hv' | hv'
        · exact c1 v hv'
        · exact c2 v hv', fun k v v' a b => by
        have hk : k < (ro ++ rn).size := by rw [← hv.size]; exact (List.getElem?_eq_some_iff.1 a).1
        simp only [Nat.zero_add] at b
        rw [Array.getElem?_append_left hk] at b
        exact hv.at_ k v v' a b, fun _ => .inl rfl⟩
  exact ⟨_, rfl, a2, a1, a3⟩

theorem cut_appendCap (need old : Nat) (e : TypeId) (t : Nat) : need ≤ (Question.appendCap need old e).cut t := by
  simp only [Question.cut]; omega

theorem zeroCells_size (z : Array Value) (n : Nat) : (Builtin.zeroCells z n).size = n * z.size := by simp [Builtin.zeroCells]

theorem zero_cells2 (hE : E.Ok P) {e : TypeId} {ei : TI} {z : AV} (hei : E.ty.get e = some ei) (hz : ei.zero = some z) (hnt : (∀ vs, z ≠ .tuple vs) ∧ z ≠ .any) :
    ∃ v, (∀ w, (zeroValue e).run P w = .ok v w) ∧ (∀ ι, VRs ι (cellsOf z) v.cells) ∧ ∀ x, x ∈ cellsOf z → x.isCell = true := by
  obtain ⟨i, hi, _, _, h3⟩ := (mkTI_ok (hE.ty _ _ hei)).inf
  obtain ⟨v, hv, h2⟩ := h3 z hz
  exact ⟨v, fun w => by simp only [zeroValue, Sem.run_bind, run_typeInfo w hi, Result.andThen_ok, hv, Sem.run_pure],
    fun ι => ((h2 ι).cells (notTuple_cells hnt)).1, ((h2 (fun _ => none)).cells (notTuple_cells hnt)).2⟩

theorem append_in {sT xT rT e : TypeId} {td : TypeDesc} {base : Option Addr} {sLen sCap esz n : Nat} {x' : Value} (h1 : (underlying sT).run P w = .ok (.slice e) w) (h2 : (underlying xT).run P w = .ok td w)
    (h3 : isIntD td = false) (h4 : (sizeOf e).run P w = .ok esz w) (h5 : (Builtin.lenOf x').run P w = .ok n w) (hle : sLen + n ≤ sCap) :
    (Builtin.append_ #[sT, xT] rT #[.slice base sLen sCap, x']).run P w =
      ((Builtin.firstCells esz n x').run P w).andThen fun new w' => (do (match base with | some a => storeCells (a.add (sLen * esz)) new.toList | none => pure ()); pure (.slice base (sLen + n) sCap) : Sem Value).run P w' := by
  unfold Builtin.append_
  simp only [List.getElem?_toArray, List.getElem?_cons_zero, List.getElem?_cons_succ, Sem.run_bind, h1, Result.andThen_ok, h4, h2]
  cases td <;> simp only [isIntD, Bool.true_eq_false] at h3 <;>
    (simp only [Sem.run_pure, Result.andThen_ok, Bool.false_eq_true, if_false, h5, Bool.not_false, if_true, hle, Sem.run_bind]; cases base <;> simp only [Sem.run_bind, Sem.run_pure] <;> rfl)

theorem append_out {sT xT rT e : TypeId} {td : TypeDesc} {base : Option Addr} {sLen sCap esz n bytes : Nat} {x' z : Value} {ro rn : Array Value} (h1 : ∀ w, (underlying sT).run P w = .ok (.slice e) w)
    (h2 : ∀ w, (underlying xT).run P w = .ok td w)
    (h3 : isIntD td = false) (h4 : ∀ w, (sizeOf e).run P w = .ok esz w) (h5 : ∀ w, (Builtin.lenOf x').run P w = .ok n w) (hle : ¬ sLen + n ≤ sCap) (hi : ∀ w, ∃ i, (typeInfo e).run P w = .ok i w ∧ i.bytes = bytes)
    (hb : (2 * (sLen + n) + 200) * bytes ≤ 281474976710656) (hn : sLen + n < 4611686018427387904) (hz : ∀ w, (zeroValue e).run P w = .ok z w)
    (hro : (Builtin.firstCells esz sLen (.slice base sLen sCap)).run P { w with drawn := w.drawn + 1 } = .ok ro { w with drawn := w.drawn + 1 })
    (hrn : (Builtin.firstCells esz n x').run P { w with drawn := w.drawn + 1 } = .ok rn { w with drawn := w.drawn + 1 }) :
    ∃ cap, sLen + n ≤ cap ∧ (Builtin.append_ #[sT, xT] rT #[.slice base sLen sCap, x']).run P w =
      ((newRow e (ro ++ rn ++ Builtin.zeroCells z.cells (cap - (sLen + n)))).run P { w with drawn := w.drawn + 1 }).andThen fun a w' => .ok (.slice (some a) (sLen + n) cap) w' := by
  refine ⟨(Question.appendCap (sLen + n) sCap e).cut (w.tape w.drawn (.appendCap (sLen + n) sCap e)), cut_appendCap _ _ _ _, ?_⟩
  obtain ⟨i, hi1, hi2⟩ := hi w
  have hcap : Builtin.nextslicecap (sLen + n) sCap * i.bytes ≤ 281474976710656 := by
    rw [hi2]; exact Nat.le_trans (Nat.mul_le_mul_right _ (nextcap_le (by omega))) hb
  have hcap' : ¬ (Builtin.nextslicecap (sLen + n) sCap * i.bytes > 2 ^ 48) := by
    have : (2 : Nat) ^ 48 = 281474976710656 := by decide
    omega
  have hmax : ¬ (((sLen + n : Nat) : Int) > IntKind.i64.max) := by
    have : IntKind.i64.max = 9223372036854775807 := by decide
    omega
  have hmax' : ¬ ((((sLen + n : Nat) : Int) > IntKind.i64.max) ∧ (False ∨ i.bytes = 0)) := fun h => hmax h.1
  have hf : Question.forced (.appendCap (sLen + n) sCap e) = false := rfl
  obtain ⟨j, hj1, hj2⟩ := hi { w with drawn := w.drawn + 1 }
  unfold Builtin.append_
  simp only [List.getElem?_toArray, List.getElem?_cons_zero, List.getElem?_cons_succ, Sem.run_bind, h1, Result.andThen_ok, h4, h2]
  cases td <;> simp only [isIntD, Bool.true_eq_false] at h3 <;>
    simp only [Sem.run_pure, Result.andThen_ok, Bool.false_eq_true, if_false, h5, Bool.not_false, if_true, hle, Sem.run_bind, Sem.run_ite, hi1, hmax', hcap', run_choose, hf, hj1, run_askRoom, hro, hrn, hz]

theorem aAppend_ok (hE : E.Ok P) (h : SR B w0 ι st w) {sT xT rT : TypeId} {s x : AV} {s' x' : Value} {r : AV × ASt} (hs : VR ι s s') (hx : VR ι x x')
    (hr : aAppend E sT xT s x st = some r) : Did P B w0 ι w (Builtin.append_ #[sT, xT] rT #[s', x']) r := by
  simp only [aAppend] at hr
  split at hr
  · simp at hr
  rename_i ti hti
  split at hr
  · simp at hr
  rename_i tx htx
  cases hint : isIntD tx.desc
  rotate_left
  · simp only [hint, cond_true, reduceCtorEq] at hr
  simp only [hint, cond_false] at hr
  split at hr
  rotate_left
  · simp at hr
  rename_i e hd
  split at hr
  · simp at hr
  rename_i ei hei
  split at hr
  · simp at hr
  rename_i z hz
  have fin : ((∀ vs, z ≠ .tuple vs) ∧ z ≠ .any) → (bif Nat.beq (cellsOf z).length ei.size then
                match aLen x with
                | none => none
                | some n =>
                  match aFirst st ei.size n x with
                  | none => none
                  | some new => aAppendTo ei st s n new
              else none) = some r → Did P B w0 ι w (Builtin.append_ #[sT, xT] rT #[s', x']) r := by
    clear hr
    intro hnt hr
    cases hbz : Nat.beq (cellsOf z).length ei.size
    · simp only [hbz, cond_false, reduceCtorEq] at hr
    simp only [hbz, cond_true] at hr
    have hsz := Nat.eq_of_beq_eq_true hbz
    split at hr
    · simp at hr
    rename_i n hn
    split at hr
    · simp at hr
    rename_i new hnew
    have k1 : ∀ w, (underlying sT).run P w = .ok (.slice e) w := fun w => by rw [← hd]; exact (mkTI_ok (hE.ty _ _ hti)).run_und w
    have k2 : ∀ w, (underlying xT).run P w = .ok tx.desc w := fun w => (mkTI_ok (hE.ty _ _ htx)).run_und w
    have k4 : ∀ w, (sizeOf e).run P w = .ok ei.size w := fun w => (mkTI_ok (hE.ty _ _ hei)).run_size w
    have k5 : ∀ w, (Builtin.lenOf x').run P w = .ok n w := fun w => aLen_ok hx hn
    have k6 : ∀ w, ∃ i, (typeInfo e).run P w = .ok i w ∧ i.bytes = ei.bytes := fun w => let ⟨i, a, b, _⟩ := (mkTI_ok (hE.ty _ _ hei)).run_info w; ⟨i, a, b⟩
    obtain ⟨zv, k7, hzv2, hzv3⟩ := zero_cells2 hE hei hz hnt
    have hzs : zv.cells.size = ei.size := by rw [← (hzv2 ι).size, hsz]
    have hd1 : SR B w0 ι st { w with drawn := w.drawn + 1 } := h.drawn _
    -- a new array
    have out : ∀ (base : Option Addr) (l c : Nat) (old : List AV) (ro : Array Value), ¬ l + n ≤ c → (2 * (l + n) + 200) * ei.bytes ≤ 281474976710656 → l + n < 4611686018427387904 →
        (Builtin.firstCells ei.size l (.slice base l c)).run P { w with drawn := w.drawn + 1 } = .ok ro { w with drawn := w.drawn + 1 } → VRs ι old ro → (∀ v, v ∈ old → v.isCell = true) →
        old.length = l * ei.size → new.length = n * ei.size →
        ∃ cap ι' w', (Builtin.append_ #[sT, xT] rT #[.slice base l c, x']).run P w = .ok (.slice (some ⟨w.heap.size, 0, none⟩) (l + n) cap) w' ∧ ι.le ι' ∧
          SR B w0 ι' (st.add (.cells (old ++ new) true)) w' ∧ ι' st.next = some ⟨w.heap.size, 0, cap * ei.size⟩ ∧ l + n ≤ cap := by
      intro base l c old ro hle hb hlt hro hvo hco ho hn'
      obtain ⟨rn, hrn, hvn, hcn⟩ := aFirst_ok (P := P) hd1 hx hnew
      obtain ⟨cap, hcap, hrun⟩ := append_out (P := P) (w := w) (rT := rT) (base := base) k1 k2 hint k4 k5 hle k6 hb hlt k7 hro hrn
      obtain ⟨ι', g1, g2, g3, g4⟩ := grow_ok (P := P) hd1 (e := e) (rest := Builtin.zeroCells zv.cells (cap - (l + n))) hvo hvn hco hcn
      have htot : (ro ++ rn ++ Builtin.zeroCells zv.cells (cap - (l + n))).size = cap * ei.size := by
        simp only [Array.size_append, zeroCells_size, hzs, ← hvo.size, ← hvn.size, ho, hn']
        rw [← Nat.add_mul, ← Nat.add_mul]; congr 1; omega
      rw [htot] at g4
      exact ⟨cap, ι', _, by rw [hrun, g1]; rfl, g2, g3, g4, hcap⟩
    have hnewlen : new.length = n * ei.size := by
      cases hx with
      | str m q hq =>
        simp only [aFirst] at hnew
        cases h1 : Nat.beq ei.size 1
        · simp only [h1, cond_false, reduceCtorEq] at hnew
        · simp only [h1, cond_true, Option.some.injEq] at hnew
          have h1' := Nat.eq_of_beq_eq_true h1
          simp [aLen] at hn
          subst hnew
          rw [h1', ← hn, ← hq, ← List.map_take, ofBytes_ok]; simp
      | sliceN =>
        simp only [aFirst] at hnew
        cases h1 : Nat.beq n 0
        · simp only [h1, cond_false, reduceCtorEq] at hnew
        · simp only [h1, cond_true, Option.some.injEq] at hnew
          have := Nat.eq_of_beq_eq_true h1
          subst hnew; subst this; simp
      | slice i o m c' L c hL h2 h3 =>
        simp only [aFirst] at hnew
        split at hnew
        · exact (takeL_ok hnew).1
        · simp at hnew
      | slice0 a c =>
        simp only [aFirst] at hnew
        cases h1 : Nat.beq n 0
        · simp only [h1, cond_false, reduceCtorEq] at hnew
        · simp only [h1, cond_true, Option.some.injEq] at hnew
          have := Nat.eq_of_beq_eq_true h1
          subst hnew; subst this; simp
      | _ => simp [aLen] at hn
    obtain ⟨rn, hrn, hvn, hcn⟩ := aFirst_ok (P := P) h hx hnew
    -- nothing is appended
    have nothing : ∀ (base : Option Addr) (l c : Nat), n = 0 → l ≤ c → s' = .slice base l c → r = (s, st) → Did P B w0 ι w (Builtin.append_ #[sT, xT] rT #[s', x']) r := by
      intro base l c hn0 hle he hre
      subst hre
      refine ⟨ι, s', w, ?_, ι.le_refl, h, hs⟩
      subst hn0; subst he
      have hnil : rn = #[] := by have := hvn.size; rw [hnewlen] at this; simp at this; exact Array.size_eq_zero_iff.1 this.symm
      rw [append_in (P := P) (w := w) (rT := rT) (base := base) (k1 w) (k2 w) hint (k4 w) (k5 w) hle, hrn, hnil]
      cases base <;> simp [storeCells]
    simp only [aAppendTo] at hr
    split at hr
    · -- nil
      cases hs
      cases h0 : Nat.beq n 0
      · simp only [h0, cond_false] at hr
        cases hb : Nat.ble ((2 * n + 200) * ei.bytes) 281474976710656
        · simp only [hb, cond_false, reduceCtorEq] at hr
        cases hlt : Nat.blt n 4611686018427387904
        · simp only [hb, hlt, cond_true, cond_false, reduceCtorEq] at hr
        simp only [hb, hlt, cond_true, Option.some.injEq] at hr
        have hne : n ≠ 0 := by intro e; rw [e] at h0; simp at h0
        obtain ⟨cap, ι', w', g1, g2, g3, g4, g5⟩ := out none 0 0 [] #[] (by omega) (by simpa using ble_le hb) (by rw [Nat.zero_add, ← Nat.blt_eq]; exact hlt) rfl ⟨rfl, fun i v v' hv => by simp at hv⟩ (by simp) (by simp) hnewlen
        subst hr
        rw [Nat.zero_add] at g1 g5
        refine ⟨ι', _, w', g1, g2, by simpa using g3, .slice _ _ _ _ _ _ g4 ?_ g5⟩
        show 0 + 0 + cap * ei.size = cap * ei.size
        omega
      · simp only [h0, cond_true, Option.some.injEq] at hr
        exact nothing none 0 0 (Nat.eq_of_beq_eq_true h0) (Nat.le_refl _) rfl hr.symm
    · -- a known capacity
      rename_i i o l c
      cases hs with
      | slice _ _ _ c' L _ hL hc hl =>
        have hc : c = c' := hc
        subst hc
        cases hle : Nat.ble (l + n) c
        · simp only [hle, cond_false] at hr
          have hle' : ¬ l + n ≤ c := by intro e; rw [← Nat.ble_eq] at e; rw [e] at hle; simp at hle
          cases hb : Nat.ble ((2 * (l + n) + 200) * ei.bytes) 281474976710656
          · simp only [hb, cond_false, reduceCtorEq] at hr
          cases hlt : Nat.blt (l + n) 4611686018427387904
          · simp only [hb, hlt, cond_true, cond_false, reduceCtorEq] at hr
          simp only [hb, hlt, cond_true] at hr
          split at hr
          · rename_i old hold
            simp only [Option.some.injEq] at hr
            have hvs : VR ι (.slice (some (i, o)) l (.known c)) (.slice (some ⟨L.b, L.p + o, none⟩) l c) := .slice _ _ _ _ L _ hL rfl hl
            obtain ⟨ro, p1, p2, p3⟩ := aFirst_ok (P := P) hd1 hvs hold
            have hol : old.length = l * ei.size := by
              simp only [aFirst] at hold
              split at hold
              · exact (takeL_ok hold).1
              · simp at hold
            obtain ⟨cap, ι', w', g1, g2, g3, g4, g5⟩ := out _ l c old ro hle' (ble_le hb) (by rw [← Nat.blt_eq]; exact hlt) p1 p2 p3 hol hnewlen
            subst hr
            refine ⟨ι', _, w', g1, g2, g3, .slice _ _ _ _ _ _ g4 ?_ g5⟩
            show 0 + 0 + cap * ei.size = cap * ei.size
            omega
          · simp at hr
        · simp only [hle, cond_true] at hr
          have hle' := ble_le hle
          cases h0 : Nat.beq n 0
          · simp only [h0, cond_false] at hr
            split at hr
            · rename_i cs hi
              split at hr
              · rename_i cs' hset
                simp only [Option.some.injEq] at hr; subst hr
                obtain ⟨w', q1, q2⟩ := SR.storeCells (P := P) new rn.toList 0 (o + l * ei.size) cs cs' st w h hi hL (by simpa using hset) (by simpa using hvn) hcn
                refine ⟨ι, .slice (some ⟨L.b, L.p + o, none⟩) (l + n) c, w', ?_, ι.le_refl, q2, .slice _ _ _ _ L _ hL rfl hle'⟩
                rw [append_in (P := P) (w := w) (rT := rT) (k1 w) (k2 w) hint (k4 w) (k5 w) hle', hrn]
                simp only [Result.andThen_ok, Sem.run_bind, add_none, Nat.add_assoc, q1, Sem.run_pure]
              · simp at hr
            · simp at hr
          · simp only [h0, cond_true, Option.some.injEq] at hr
            exact nothing _ l c (Nat.eq_of_beq_eq_true h0) hl rfl hr.symm
    · -- the rest of a block
      rename_i i o l zz
      cases hs with
      | slice _ _ _ c' L _ hL hc hl =>
        have hc : L.p + o + c' * zz = L.tot := hc
        cases h0 : Nat.beq n 0
        rotate_left
        · simp only [h0, cond_true, Option.some.injEq] at hr
          exact nothing _ l c' (Nat.eq_of_beq_eq_true h0) hl rfl hr.symm
        simp only [h0, cond_false] at hr
        cases hzz : Nat.beq zz ei.size
        · simp only [hzz, cond_false, reduceCtorEq] at hr
        have ezz := Nat.eq_of_beq_eq_true hzz
        cases hroom : inRoom st i (o + (l + n) * ei.size) ei.size
        rotate_left
        · -- there is room in what is known
          simp only [hzz, hroom, cond_true] at hr
          split at hr
          rotate_left
          · simp at hr
          rename_i cs hi
          split at hr
          rotate_left
          · simp at hr
          rename_i cs' hset
          simp only [Option.some.injEq] at hr; subst hr
          simp only [inRoom, hi] at hroom
          cases hr1 : Nat.ble (o + (l + n) * ei.size) cs.length
          · simp [hr1] at hroom
          simp only [hr1, cond_true] at hroom
          have hr2 : 0 < ei.size := by rw [← Nat.blt_eq]; exact hroom
          have hr3 := ble_le hr1
          obtain ⟨L', ob, e1, e2, c, et, lo, hi', e3, e4, e5, _⟩ := h.obj i _ hi (by simp)
          rw [hL] at e1; cases e1
          have hfit : l + n ≤ c' := by
            rw [ezz] at hc
            have : (l + n) * ei.size ≤ c' * ei.size := by omega
            exact Nat.le_of_mul_le_mul_right this hr2
          obtain ⟨w', q1, q2⟩ := SR.storeCells (P := P) new rn.toList 0 (o + l * ei.size) cs cs' st w h hi hL (by simpa using hset) (by simpa using hvn) hcn
          refine ⟨ι, .slice (some ⟨L.b, L.p + o, none⟩) (l + n) c', w', ?_, ι.le_refl, q2, .slice _ _ _ _ L _ hL hc hfit⟩
          rw [append_in (P := P) (w := w) (rT := rT) (k1 w) (k2 w) hint (k4 w) (k5 w) hfit, hrn]
          simp only [Result.andThen_ok, Sem.run_bind, add_none, Nat.add_assoc, q1, Sem.run_pure]
        cases hb : Nat.ble ((2 * (l + n) + 200) * ei.bytes) 281474976710656
        · simp only [hzz, hroom, hb, cond_true, cond_false, reduceCtorEq] at hr
        cases hlt : Nat.blt (l + n) 4611686018427387904
        · simp only [hzz, hroom, hb, hlt, cond_true, cond_false, reduceCtorEq] at hr
        simp only [hzz, hroom, hb, hlt, cond_true, cond_false] at hr
        rw [ezz] at hc
        split at hr
        · rename_i cs hi
          split at hr
          · rename_i old hold
            simp only [Option.some.injEq] at hr; subst hr
            have hol := (takeL_ok hold).1
            by_cases hfit : l + n ≤ c'
            · -- there was room: the same array, under a new number
              obtain ⟨L', ob, e1, e2, c, et, lo, hi', e3, e4, e5, e6, e7, e8⟩ := h.obj i _ hi (by simp)
              rw [hL] at e1; cases e1
              rw [e3] at e2
              have hmul : l * ei.size + n * ei.size ≤ c' * ei.size := by rw [← Nat.add_mul]; exact Nat.mul_le_mul_right _ hfit
              have hrl : rn.size = n * ei.size := by rw [← hvn.size, hnewlen]
              obtain ⟨cc, q1, q2, q3⟩ := storeRow (P := P) rn.toList 0 (L.p + o + l * ei.size) c w e2 (by simp only [Nat.add_zero, Array.length_toList, hrl]; omega) (e8 rfl) (fun v hv => by
                obtain ⟨k, hk, ek⟩ := List.getElem_of_mem hv
                have hk' : k < new.length := by rw [hvn.size]; simpa using hk
                have h9 := hvn.at_ k new[k] v (by simp [hk']) (by simp at hk ek; simp [hk, ek])
                have h10 := hcn new[k] (List.getElem_mem hk')
                generalize new[k] = y at h9 h10
                cases h9 <;> simp_all [AV.isCell, Value.oneCell'])
              simp only [Nat.add_zero, Array.length_toList, hrl] at q3
              have hw := h.write (a' := .cells [] true) (o' := .cells cc et (lo, hi')) hi rfl hL ⟨cc, et, lo, hi', rfl, by rw [q2, e4], by simp; rw [q2]; omega, by simp, by simp, by rw [q2]; exact e8⟩
              have hi2 : (st.put i (.cells [] true)).h.get i = some (.cells [] true) := put_get _ _ _
              have hblt : L.b < w.heap.size := (Array.getElem?_eq_some_iff.1 e2).1
              obtain ⟨m1, m2, m3⟩ := hw.move (a' := .cells (old ++ new) true) (L' := ⟨L.b, L.p + o, L.tot⟩) hi2 rfl hL rfl (fun o' ho' => by
                rw [heap_setObjW] at ho'
                simp only [hblt, and_self, if_true, Option.some.injEq] at ho'
                subst ho'
                refine ⟨cc, et, lo, hi', rfl, by rw [q2, e4], by simp [hol, hnewlen]; rw [q2]; omega, fun v hv => ?_, fun k v v' hk hk' => ?_, by rw [q2]; exact e8⟩
                · simp only [List.mem_append] at hv
                  rcases hv with hv | hv
                  · obtain ⟨j, hj, ej⟩ := List.getElem_of_mem hv
                    have := (takeL_ok hold).2 j (by omega)
                    rw [List.getElem?_eq_getElem hj, ej] at this
                    exact e6 v (List.mem_of_getElem? this.symm)
                  · exact hcn v hv
                · simp only at hk'
                  rw [q3] at hk'
                  by_cases hko : k < old.length
                  · rw [List.getElem?_append_left hko] at hk
                    have : ¬ (L.p + o + l * ei.size ≤ L.p + o + k ∧ L.p + o + k < L.p + o + l * ei.size + n * ei.size) := by omega
                    simp only [this, if_false] at hk'
                    rw [(takeL_ok hold).2 k (by omega)] at hk
                    exact e7 (o + k) v v' hk (by rw [← hk']; congr 1; omega)
                  · rw [List.getElem?_append_right (by omega)] at hk
                    have hkn := (List.getElem?_eq_some_iff.1 hk).1
                    have : (L.p + o + l * ei.size ≤ L.p + o + k ∧ L.p + o + k < L.p + o + l * ei.size + n * ei.size) := by omega
                    simp only [this, and_self, if_true] at hk'
                    refine hvn.at_ _ v v' hk ?_
                    rw [← hk']; simp; congr 1; omega)
              have hnx : (st.put i (.cells [] true)).next = st.next := rfl
              rw [hnx] at m1 m2 m3
              refine ⟨_, .slice (some ⟨L.b, L.p + o, none⟩) (l + n) c', _, ?_, m2, m1.congr (fun j => ?_) rfl, ?_⟩
              · rw [append_in (P := P) (w := w) (rT := rT) (k1 w) (k2 w) hint (k4 w) (k5 w) hfit, hrn]
                simp only [Result.andThen_ok, Sem.run_bind, add_none, q1, Sem.run_pure]
              · show (T.set D (T.set D st.h i .dead) st.next _).get j = (T.set D (T.set D (T.set D st.h i _) i .dead) st.next _).get j
                rw [T.get_set, T.get_set, T.get_set, T.get_set, T.get_set]
                by_cases e1 : j = st.next
                · simp [e1]
                · by_cases e2 : j = i <;> simp [e1, e2]
              · have := VR.slice (ι := ι.ext st.next ⟨L.b, L.p + o, L.tot⟩) st.next 0 (l + n) c' ⟨L.b, L.p + o, L.tot⟩ (.rest ei.size) m3 (by show L.p + o + 0 + c' * ei.size = L.tot; omega) hfit
                simpa using this
            · have hvs : VR ι (.slice (some (i, o)) l (.rest ei.size)) (.slice (some ⟨L.b, L.p + o, none⟩) l c') := .slice _ _ _ _ L _ hL hc hl
              obtain ⟨ro, p1, p2, p3⟩ := aFirst_ok (P := P) (n := l) (esz := ei.size) (l := old) hd1 hvs (by simp only [aFirst, hi, hold])
              obtain ⟨cap, ι', w', g1, g2, g3, g4, g5⟩ := out _ l c' old ro hfit (ble_le hb) (by rw [← Nat.blt_eq]; exact hlt) p1 p2 p3 hol hnewlen
              have hlt' := h.hdom _ _ hi
              have g6 := g3.kill (i := i) (a := .cells cs true) (by
                show (T.set D st.h st.next _).get i = _
                rw [T.get_set, if_neg (by omega)]; exact hi)
              refine ⟨ι', _, w', g1, g2, g6.congr (fun j => ?_) rfl, .slice _ _ _ _ _ _ g4 ?_ g5⟩
              · show (T.set D (T.set D st.h i .dead) st.next _).get j = (T.set D (T.set D st.h st.next _) i .dead).get j
                rw [T.get_set, T.get_set, T.get_set, T.get_set]
                by_cases e1 : j = st.next
                · have : ¬ j = i := by omega
                  simp [e1]
                  intro e2; omega
                · simp [e1]
              · show 0 + 0 + cap * ei.size = cap * ei.size
                omega
          · simp at hr
        · simp at hr
    · simp at hr
  cases z <;> first | (simp at hr; done) | exact fin ⟨by simp, by simp⟩ hr
end
end
end Go.Ax
