/-
  OWN WORK, TOLD ONCE FOR ALL TEXTS YtmjmpmmonelmmaaAxA TO YtmjmpmmonelmmaaAxU: an abstract machine for the program's text that the kernel can run, and the proof that it is sound: what it answers is what the program answers. No condition.
-/
import Derived.Test.YtmjmpmmonelmmaaAxG
namespace Go.Ax
noncomputable section
open Go.RowKit

/-! ### Unary operators, conversions, interfaces -/
def aUn (op : UnOp) (x : AV) : Option AV :=
  match x with
  | .int k n =>
    match op with
    | .neg => some (.int k (wrapF k (0 - n)))
    | .xor => match bitsF .xor k (if k.signed then -1 else k.max) n with | some r => some (.int k r) | none => none
    | _ => none
  | .bool b =>
    match op with
    | .not => some (.bool (!b))
    | _ => none
  | _ => none

def asN (v : AV) : Option Nat :=
  match v with
  | .int _ n => match n with | .ofNat n => some n | .negSucc _ => none
  | _ => none

def bytesL : List AV → Option (List Nat)
  | [] => some []
  | v :: vs =>
    match v with
    | .int k n =>
      match k with
      | .u8 =>
        match n with
        | .ofNat n => match bytesL vs with | some l => some (n % 256 :: l) | none => none
        | .negSucc _ => none
      | _ => none
    | _ => none

def ofBytes : List Nat → List AV
  | [] => []
  | c :: l => .int .u8 (.ofNat c) :: ofBytes l

def aConvert (E : Env) (src dst : TypeId) (x : AV) (st : ASt) : Option (AV × ASt) :=
  match E.ty.get dst with
  | none => none
  | some td =>
    match E.ty.get src with
    | none => none
    | some ts =>
    match td.desc with
    | .int k => match x with | .int _ n => some (.int k (wrapF k n), st) | _ => none
    | .string =>
      match x with
      | .str l => some (.str l, st)
      | .slice none _ _ =>
        match ts.desc with
        | .slice e => match E.ty.get e with | some te => (match te.desc with | .int .u8 => some (.str [], st) | _ => none) | none => none
        | _ => none
      | .slice0 =>
        match ts.desc with
        | .slice e => match E.ty.get e with | some te => (match te.desc with | .int .u8 => some (.str [], st) | _ => none) | none => none
        | _ => none
      | .slice (some (i, o)) n _ =>
        match ts.desc with
        | .slice e =>
          match E.ty.get e with
          | some te =>
            match te.desc with
            | .int .u8 =>
              match st.h.get i with
              | some (.cells cs _) =>
                match takeL cs o n with
                | some l => match bytesL l with | some b => some (.str b, st) | none => none
                | none => none
              | _ => none
            | _ => none
          | none => none
        | _ => none
      | _ => none
    | .slice e =>
      match x with
      | .str l =>
        match ts.desc with
        | .string =>
          match E.ty.get e with
          | some te =>
            match te.desc with
            | .int .u8 => some (.slice (some (st.next, 0)) l.length (.rest 1), st.add (.cells (ofBytes l) true))
            | _ => none
          | none => none
        | _ => none
      | .slice (some (i, o)) n c =>
        match ts.desc with
        | .slice _ =>
          bif Nat.beq src dst then
            match E.ty.get e with
            | some te =>
              match te.desc with
              | .int .u8 => (match st.h.get i with | some (.cells _ true) => some (.slice (some (i, o)) n c, st) | _ => none)
              | _ => none
            | none => none
          else none
        | _ => none
      | _ => none
    | _ => none

def aNilCheck (x : AV) : Option AV :=
  match x with
  | .ptr none => none
  | .nilIface => none
  | .nilFunc => none
  | .any => none
  | x => some x

def aMakeIface (E : Env) (t : TypeId) (x : AV) : Option AV :=
  match E.ty.get t with
  | some ti => match ti.desc with | .interface _ => none | _ => some (.iface t x)
  | none => none

def aAssert (E : Env) (x : AV) (asserted : TypeId) (ok : Bool) : Option AV :=
  match E.ty.get asserted with
  | some ti =>
    match ti.desc with
    | .interface _ => none
    | _ =>
      match x with
      | .iface t v =>
        bif Nat.beq t asserted then some (bif ok then .tuple [v, .bool true] else v)
        else bif ok then (match ti.zero with | some z => some (.tuple [z, .bool false]) | none => none) else none
      | .nilIface => bif ok then (match ti.zero with | some z => some (.tuple [z, .bool false]) | none => none) else none
      | _ => none
  | none => none

def aExtract (x : AV) (i : Nat) : Option AV :=
  match x with
  | .tuple vs => vs[i]?
  | _ => none

section
variable {P : Program} {E : Env} {B : Prot} {w0 : World} {ι : Ren} {st : ASt} {w : World}

theorem aUn_ok {op : UnOp} {x r : AV} {x' : Value} (hx : VR ι x x') (h : aUn op x = some r) : ∃ v, (Op.unary op x').run P w = .ok v w ∧ VR ι r v := by
  cases hx with
  | int k n =>
    cases op <;> simp only [aUn, Option.some.injEq, reduceCtorEq] at h
    · subst h; exact ⟨.int k (k.wrap (0 - n)), by simp only [Op.unary, Op.intArith, Sem.run_pure], by rw [wrapF_eq]; exact .int _ _⟩
    · split at h
      · rename_i q hq
        simp only [Option.some.injEq] at h; subst h
        exact ⟨.int k q, by simp only [Op.unary]; exact bitsF_ok hq w, .int _ _⟩
      · simp at h
  | bool b =>
    cases op <;> simp only [aUn, Option.some.injEq, reduceCtorEq] at h
    subst h; exact ⟨.bool (!b), by simp only [Op.unary, Sem.run_pure], .bool _⟩
  | _ => simp [aUn] at h

theorem bytesL_ok : ∀ (l : List AV) (b : List Nat) (r : List Value) (s : ByteArray), bytesL l = some b → VRs ι l r.toArray →
    ((forIn r s (fun c s => (match c with | .int .u8 n => (pure (ForInStep.yield (s.push (UInt8.ofNat n.toNat))) : Sem (ForInStep ByteArray)) | _ => stuck "bytesToString: byte expected")) : Sem ByteArray).run P w) =
      .ok ⟨s.data ++ (b.map UInt8.ofNat).toArray⟩ w
  | [], b, r, s, h, hv => by
    simp [bytesL] at h; subst h
    have : r = [] := by have := hv.size; simp at this; exact List.length_eq_zero_iff.1 this.symm
    subst this
    simp
  | v :: l, b, [], s, h, hv => by have := hv.size; simp at this
  | v :: l, b, x :: r, s, h, hv => by
    have hx := hv.at_ 0 v x rfl (by simp)
    have hv' : VRs ι l r.toArray := ⟨by have := hv.size; simp at this; simpa using this, fun j a c ha hc => hv.at_ (j + 1) a c (by simpa using ha) (by simpa using hc)⟩
    unfold bytesL at h
    split at h
    · rename_i k n
      split at h
      · split at h
        · rename_i n
          split at h
          · rename_i l' hl'
            simp only [Option.some.injEq] at h; subst h
            cases hx
            have ih := bytesL_ok l l' r (s.push (UInt8.ofNat n)) hl' hv'
            simp only [List.forIn_cons, Sem.run_bind, Sem.run_pure, Result.andThen_ok]
            have e : (Int.ofNat n).toNat = n := rfl
            rw [e]
            rw [ih]
            have e2 : UInt8.ofNat (n % 256) = UInt8.ofNat n := by
              apply UInt8.toNat_inj.1; simp
            simp [e2, ByteArray.push]
          · simp at h
        · simp at h
      · simp at h
    · simp at h

theorem bytesL_lt : ∀ (l : List AV) (b : List Nat), bytesL l = some b → ∀ x, x ∈ b → x < 256
  | [], b, h => by simp [bytesL] at h; subst h; simp
  | v :: l, b, h => by
    unfold bytesL at h
    split at h
    · split at h
      · split at h
        · split at h
          · rename_i l' hl'
            simp only [Option.some.injEq] at h; subst h
            intro x hx
            simp at hx
            rcases hx with rfl | hx
            · omega
            · exact bytesL_lt l l' hl' x hx
          · simp at h
        · simp at h
      · simp at h
    · simp at h

theorem ofBytes_ok : ∀ (l : List UInt8), ofBytes (l.map UInt8.toNat) = l.map (fun b => AV.int .u8 (Int.ofNat b.toNat))
  | [] => rfl
  | c :: l => by simp [ofBytes, ofBytes_ok l]

theorem map_toNat_ofNat {b : List Nat} (h : ∀ x, x ∈ b → x < 256) : (b.map UInt8.ofNat).map UInt8.toNat = b := by
  induction b with
  | nil => rfl
  | cons x b ih =>
    have hx := h x (by simp)
    simp only [List.map_cons, ih (fun y hy => h y (by simp [hy]))]
    congr 1
    simp; omega

theorem aConvert_ok (hE : E.Ok P) (h : SR B w0 ι st w) {src dst : TypeId} {x : AV} {x' : Value} {r : AV × ASt} (hx : VR ι x x') (hr : aConvert E src dst x st = some r) :
    Did P B w0 ι w (convert src dst x') r := by
  simp only [aConvert] at hr
  split at hr
  · simp at hr
  rename_i td htd
  split at hr
  · simp at hr
  rename_i ts hts
  have hd := (mkTI_ok (hE.ty _ _ htd)).run_und w
  have hs := (mkTI_ok (hE.ty _ _ hts)).run_und w
  split at hr
  · rename_i k hk
    rw [hk] at hd
    split at hr
    · rename_i k' n
      cases hx
      simp only [Option.some.injEq] at hr; subst hr
      refine ⟨ι, .int k (k.wrap n), w, ?_, ι.le_refl, h, by rw [wrapF_eq]; exact .int _ _⟩
      simp only [convert, Sem.run_bind, hs, hd, Result.andThen_ok]
      all_goals (cases ts.desc <;> rfl)
    · simp at hr
  · rename_i hk
    rw [hk] at hd
    have str_case : ∀ e te, ts.desc = .slice e → E.ty.get e = some te → te.desc = .int .u8 → ∀ (b : List Nat), (∀ z, z ∈ b → z < 256) → ∀ y : Value, (∀ s : ByteArray, y ≠ .string s) → (∀ k n, y ≠ .int k n) →
        (Conv.bytesToString y).run P w = .ok (.string ⟨(b.map UInt8.ofNat).toArray⟩) w → r = (.str b, st) → (∃ a l c, y = .slice a l c) → Did P B w0 ι w (convert src dst y) r := by
      intro e te h1 h2 h3 b hb y hy1 hy2 hrun he hsl
      obtain ⟨a, l, c, rfl⟩ := hsl
      rw [h1] at hs
      have hte := (mkTI_ok (hE.ty _ _ h2)).run_und w
      rw [h3] at hte
      subst he
      refine ⟨ι, .string ⟨(b.map UInt8.ofNat).toArray⟩, w, ?_, ι.le_refl, h, .str _ _ (by simpa using map_toNat_ofNat hb)⟩
      simp only [convert, Sem.run_bind, hs, hd, hte, Result.andThen_ok, hrun]
    split at hr
    · rename_i l
      cases hx with
      | str _ s hs' =>
        simp only [Option.some.injEq] at hr; subst hr
        refine ⟨ι, .string s, w, ?_, ι.le_refl, h, .str _ _ hs'⟩
        simp only [convert, Sem.run_bind, hs, hd, Result.andThen_ok]
        all_goals (cases ts.desc <;> rfl)
    · cases hx
      split at hr
      · rename_i e he
        split at hr
        · rename_i te hte
          split at hr
          · rename_i h8
            simp only [Option.some.injEq] at hr
            exact str_case e te he hte h8 [] (by simp) _ (by simp) (by simp) rfl hr.symm ⟨_, _, _, rfl⟩
          · simp at hr
        · simp at hr
      · simp at hr
    · cases hx with
      | slice0 a c =>
        split at hr
        · rename_i e he
          split at hr
          · rename_i te hte
            split at hr
            · rename_i h8
              simp only [Option.some.injEq] at hr
              exact str_case e te he hte h8 [] (by simp) _ (by simp) (by simp) (by simp [Conv.bytesToString, loadCells, loadCellsFrom]; rfl) hr.symm ⟨_, _, _, rfl⟩
            · simp at hr
          · simp at hr
        · simp at hr
    · rename_i i o n c
      cases hx with
      | slice _ _ _ c' L _ hL hc hl =>
        split at hr
        · rename_i e he
          split at hr
          · rename_i te hte
            split at hr
            · rename_i h8
              split at hr
              · rename_i cs rw hi
                split at hr
                · rename_i l hl'
                  split at hr
                  · rename_i b hb
                    simp only [Option.some.injEq] at hr
                    obtain ⟨q, h1, h2, h3⟩ := h.loadCells (P := P) hi hl' hL
                    refine str_case e te he hte h8 b (bytesL_lt _ _ hb) _ (by simp) (by simp) ?_ hr.symm ⟨_, _, _, rfl⟩
                    have h4 := bytesL_ok (P := P) (w := w) l b q.toList ByteArray.empty hb (by simpa using h2)
                    simp only [Conv.bytesToString, Sem.run_bind, h1, Result.andThen_ok]
                    rw [← Array.forIn_toList]
                    have h5 : ∀ z : ByteArray, (⟨ByteArray.empty.data ++ (b.map UInt8.ofNat).toArray⟩ : ByteArray) = ⟨(b.map UInt8.ofNat).toArray⟩ := fun _ => by
                      show (⟨#[] ++ (b.map UInt8.ofNat).toArray⟩ : ByteArray) = _
                      rw [Array.empty_append]
                    rw [h5 .empty] at h4
                    have h6 : ∀ (f g : Value → ByteArray → Sem (ForInStep ByteArray)), f = g → (forIn q.toList ByteArray.empty f : Sem ByteArray).run P w = .ok ⟨(b.map UInt8.ofNat).toArray⟩ w →
                        ((forIn q.toList ByteArray.empty g : Sem ByteArray).run P w).andThen (fun s w' => (pure (.string s) : Sem Value).run P w') = .ok (.string ⟨(b.map UInt8.ofNat).toArray⟩) w := by
                      intro f g e he; subst e; rw [he]; rfl
                    refine h6 _ _ ?_ h4
                    funext c s
                    cases c <;> first | rfl | skip
                    all_goals (rename_i k m; cases k <;> rfl)
                  · simp at hr
                · simp at hr
              · simp at hr
            · simp at hr
          · simp at hr
        · simp at hr
    · simp at hr
  · rename_i e he
    rw [he] at hd
    split at hr
    · rename_i l
      cases hx with
      | str _ s hs' =>
        split at hr
        rotate_left
        · simp at hr
        rename_i hds
        rw [hds] at hs
        split at hr
        · rename_i te hte
          split at hr
          · rename_i h8
            simp only [Option.some.injEq] at hr; subst hr
            have hte' := (mkTI_ok (hE.ty _ _ hte)).run_und w
            rw [h8] at hte'
            have hlen : l.length = s.size := by rw [← hs']; simp
            let q := Question.appendCap s.size 0 e
            let cap := q.cut (w.tape w.drawn q)
            have hcap : s.size ≤ cap := by simp only [cap, q, Question.cut]; omega
            let w1 : World := { w with drawn := w.drawn + 1 }
            have h1 : SR B w0 ι st w1 := h.drawn _
            let row : Array Value := (s.data.map fun b => (.int .u8 b.toNat : Value)) ++ Array.replicate (cap - s.size) (.int .u8 0)
            have hrow : row.size = cap := by
              simp only [row, Array.size_append, Array.size_map, Array.size_replicate]
              have : s.data.size = s.size := rfl
              omega
            obtain ⟨h2, h3, h4⟩ := h1.alloc (.cells (ofBytes l) true) (.cells row e (cap, cap + 1)) cap
              ⟨row, e, cap, cap + 1, rfl, hrow, by
                have : (ofBytes l).length = l.length := by rw [← hs', ofBytes_ok]; simp
                simp only [Nat.zero_add, hrow]; omega, by
                rw [← hs', ofBytes_ok]; intro v hv; simp at hv; obtain ⟨b, _, rfl⟩ := hv; rfl, by
                intro k v v' hv hv'
                rw [← hs', ofBytes_ok] at hv
                simp only [List.getElem?_map] at hv
                simp only [Nat.zero_add, row] at hv'
                cases hb : s.data.toList[k]? with
                | none => rw [hb] at hv; simp at hv
                | some b =>
                  rw [hb] at hv
                  simp at hv; subst hv
                  have hk : k < s.data.size := by have := (List.getElem?_eq_some_iff.1 hb).1; simpa using this
                  rw [Array.getElem?_append_left (by simpa using hk)] at hv'
                  have hb' : s.data[k]? = some b := by simpa using hb
                  simp [hb'] at hv'
                  subst hv'
                  exact .int _ _, fun _ => .inr (by rw [hrow]; exact Nat.le_refl _)⟩
            refine ⟨_, .slice (some ⟨w.heap.size, 0, none⟩) s.size cap, _, ?_, h3, h2, ?_⟩
            · have hfz : (w1.alloc (.cells row e)).freeze ⟨w.heap.size, row.size, none⟩ 1 = w1.alloc (.cells row e (cap, cap + 1)) := by
                simp only [World.freeze, World.alloc]
                simp only [Nat.one_ne_zero, if_false]
                congr 1
                apply Array.ext_getElem?
                intro j
                have e1 : w1.heap = w.heap := rfl
                rw [Array.getElem?_modify]
                by_cases hj : w.heap.size = j
                · subst hj; simp [e1, hrow]
                · simp only [hj, if_false]
                  rw [Array.getElem?_push, Array.getElem?_push, e1]
                  have : ¬ j = w.heap.size := fun e => hj e.symm
                  simp [this]
              have hq : q.forced = false := rfl
              have hsh : (w1.alloc (.cells row e)).shape? w.heap.size = some (e, row.size) := by
                have := heap_alloc_at w1 (.cells row e)
                have e1 : w1.heap.size = w.heap.size := rfl
                rw [e1] at this
                simp only [World.shape?, this]
              simp only [convert, Sem.run_bind, hs, hd, hte', Result.andThen_ok]
              have goal : (Conv.stringToBytes e s).run P w = .ok (.slice (some ⟨w.heap.size, 0, none⟩) s.size cap) (w1.alloc (.cells row e (cap, cap + 1))) := by
                simp only [Conv.stringToBytes, Sem.run_bind, run_choose]
                rw [show Question.forced (.appendCap s.size 0 e) = false from rfl]
                simp only [Bool.false_eq_true, if_false, Result.andThen_ok, newRow, Sem.run_bind, run_newObj, markStringish, run_shape, Sem.run_pure]
                show ((Sem.run P (match (w1.alloc (.cells row e)).shape? w.heap.size with | some (_, n) => freeze { block := w.heap.size, off := n } 1 | x => pure ()) (w1.alloc (.cells row e))).andThen fun a w' =>
                  Result.ok (Value.slice (some ⟨w.heap.size, 0, none⟩) s.size cap) w') = _
                rw [hsh]
                simp only [run_freeze, Result.andThen_ok]
                rw [hfz]
              exact goal
            · show VR _ (AV.slice (some (st.next, 0)) l.length (.rest 1)) _
              rw [hlen]
              refine VR.slice st.next 0 _ cap _ _ h4 ?_ (by omega)
              show 0 + 0 + cap * 1 = cap
              omega
          · simp at hr
        · simp at hr
    · rename_i i o n c
      cases hx with
      | slice _ _ _ c' L _ hL hc hl =>
        split at hr
        · rename_i e0 he0
          rw [he0] at hs
          cases hb : Nat.beq src dst
          · simp only [hb, cond_false, reduceCtorEq] at hr
          simp only [hb, cond_true] at hr
          have hsd := Nat.eq_of_beq_eq_true hb
          split at hr
          · rename_i te hte
            have hte' := (mkTI_ok (hE.ty _ _ hte)).run_und w
            split at hr
            · rename_i h8
              rw [h8] at hte'
              split at hr
              · rename_i cs hi
                simp only [Option.some.injEq] at hr; subst hr
                obtain ⟨L', ob, h1, h2, c0, e1, lo, hi', g1, g2, g3, g4, g5, g6⟩ := h.obj i _ hi (by simp)
                rw [hL] at h1; cases h1
                rw [g1] at h2
                have hlt : L.b < w.heap.size := (Array.getElem?_eq_some_iff.1 h2).1
                let fz : Nat × Nat := if lo == hi' then (c0.size, c0.size + 1) else (min lo c0.size, max hi' (c0.size + 1))
                have hfz : w.freeze ⟨L.b, c0.size, none⟩ 1 = setObjW w L.b (.cells c0 e1 fz) := by
                  simp only [World.freeze, Nat.one_ne_zero, if_false, setObjW]
                  congr 1
                  apply Array.ext_getElem?
                  intro j
                  rw [Array.getElem?_modify, Array.getElem?_setIfInBounds]
                  by_cases hj : L.b = j
                  · subst hj
                    have e2 : w.heap[L.b] = .cells c0 e1 (lo, hi') := by simpa [hlt] using h2
                    simp [hlt, e2, fz]
                  · simp [hj]
                have hw := h.write (a' := .cells cs true) hi rfl hL (o' := .cells c0 e1 fz) ⟨c0, e1, fz.1, fz.2, rfl, g2, g3, g4, g5, fun _ => .inr (by
                  have := g6 rfl
                  simp only [fz]
                  split
                  · exact Nat.le_refl _
                  · rename_i hne
                    rcases this with h | h
                    · exact absurd h.symm (by simpa using hne)
                    · simp only; omega)⟩
                refine ⟨ι, _, _, ?_, ι.le_refl, hw.congr (fun j => (put_same st hi j).symm) rfl, .slice i o n c' L c hL hc hl⟩
                have hsh : w.shape? L.b = some (e1, c0.size) := by simp only [World.shape?, h2]
                have hbe : (src == dst) = true := by simp [hsd]
                simp only [convert, Sem.run_bind, hs, hd, hte', Result.andThen_ok, hbe, markStringish, run_shape, hsh, run_freeze, Sem.run_pure, hfz]
              · simp at hr
            · simp at hr
          · simp at hr
        · simp at hr
    · simp at hr
  · simp at hr

theorem aNilCheck_ok {o : Oper} {ρ : Operand → Value} {xo : Operand} {x r : AV} (ho : o.op = .nilCheck xo) (hx : VR ι x (ρ xo)) (h : aNilCheck x = some r) :
    ∃ v, (execOp ρ o).run P w = .ok (.value v) w ∧ VR ι r v := by
  generalize hx' : ρ xo = x' at hx
  cases hx <;> simp only [aNilCheck, Option.some.injEq, reduceCtorEq] at h <;> subst h
  case bool b => exact ⟨_, by simp only [execOp, ho, hx', Sem.run_pure], .bool b⟩
  case int k n => exact ⟨_, by simp only [execOp, ho, hx', Sem.run_pure], .int k n⟩
  case str l s hs => exact ⟨_, by simp only [execOp, ho, hx', Sem.run_pure], .str l s hs⟩
  case ptr i p L hL => exact ⟨_, by simp only [execOp, ho, hx', Sem.run_pure], .ptr i p L hL⟩
  case sliceN => exact ⟨_, by simp only [execOp, ho, hx', Sem.run_pure], .sliceN⟩
  case slice i p l c' L c h1 h2 h3 => exact ⟨_, by simp only [execOp, ho, hx', Sem.run_pure], .slice i p l c' L c h1 h2 h3⟩
  case clos f cs cs' hs hv => exact ⟨_, by simp only [execOp, ho, hx', Sem.run_pure], .clos f cs cs' hs hv⟩
  case bound f fs cs fs' cs' hs hf hv hg => exact ⟨_, by simp only [execOp, ho, hx', Sem.run_pure], .bound f fs cs fs' cs' hs hf hv hg⟩
  case yield i L hL => exact ⟨_, by simp only [execOp, ho, hx', Sem.run_pure], .yield i L hL⟩
  case iface t v v' hv => exact ⟨_, by simp only [execOp, ho, hx', Sem.run_pure], .iface t v v' hv⟩
  case agg cs cs' hs hc hv => exact ⟨_, by simp only [execOp, ho, hx', Sem.run_pure], .agg cs cs' hs hc hv⟩
  case tuple cs cs' hs hv => exact ⟨_, by simp only [execOp, ho, hx', Sem.run_pure], .tuple cs cs' hs hv⟩
  case mapN => exact ⟨_, by simp only [execOp, ho, hx', Sem.run_pure], .mapN⟩
  case map i L hL => exact ⟨_, by simp only [execOp, ho, hx', Sem.run_pure], .map i L hL⟩
  case slice0 a c => exact ⟨_, by simp only [execOp, ho, hx', Sem.run_pure], .slice0 a c⟩
  case gptr g o => exact ⟨_, by simp only [execOp, ho, hx', Sem.run_pure], .gptr g o⟩

theorem aMakeIface_ok (hE : E.Ok P) {t : TypeId} {x r : AV} {x' : Value} (hx : VR ι x x') (h : aMakeIface E t x = some r) :
    ∃ v, (Instr.makeInterface t x').run P w = .ok v w ∧ VR ι r v := by
  simp only [aMakeIface] at h
  split at h
  · rename_i ti hti
    have hk := (mkTI_ok (hE.ty _ _ hti)).run_und w
    split at h
    · simp at h
    · rename_i hne
      simp only [Option.some.injEq] at h; subst h
      refine ⟨.iface t x', ?_, .iface _ _ _ hx⟩
      simp only [Instr.makeInterface, Sem.run_bind, hk, Result.andThen_ok]
      cases hd : ti.desc <;> first | rfl | (exact absurd hd (hne _))
  · simp at h

theorem tuple2 {a b : AV} {a' b' : Value} (ha : VR ι a a') (hb : VR ι b b') : VR ι (.tuple [a, b]) (.tuple #[a', b']) := by
  refine .tuple _ _ rfl fun i v v' h h' => ?_
  match i with
  | 0 => simp at h h'; subst h; subst h'; exact ha
  | 1 => simp at h h'; subst h; subst h'; exact hb
  | i + 2 => simp at h

theorem aAssert_ok (hE : E.Ok P) {x r : AV} {x' : Value} {xt asserted : TypeId} {ok : Bool} (hx : VR ι x x') (h : aAssert E x asserted ok = some r) :
    ∃ v, (Instr.typeAssert x' xt asserted ok).run P w = .ok v w ∧ VR ι r v := by
  simp only [aAssert] at h
  split at h
  · rename_i ti hti
    have hk := (mkTI_ok (hE.ty _ _ hti)).run_und w
    split at h
    · simp at h
    · rename_i hne
      have fails : ∀ (a b : Option TypeId) (m : String), (bif ok then (match ti.zero with | some z => some (AV.tuple [z, .bool false]) | none => none) else none) = some r →
          ∃ v, ((do if ok then pure (.tuple #[← zeroValue asserted, .bool false]) else runtimePanic (.typeAssertion a b asserted m)) : Sem Value).run P w = .ok v w ∧ VR ι r v := by
        intro a b m h
        cases ok
        · simp at h
        · simp only [cond_true] at h
          split at h
          · rename_i z hz
            simp only [Option.some.injEq] at h; subst h
            obtain ⟨v, h1, h2⟩ := (mkTI_ok (hE.ty _ _ hti)).run_zero hz w
            exact ⟨.tuple #[v, .bool false], by simp only [if_true, Sem.run_bind, h1, Result.andThen_ok, Sem.run_pure], tuple2 (h2 ι) (.bool _)⟩
          · simp at h
      split at h
      · rename_i t v
        cases hx with
        | iface _ _ v' hv =>
          cases hb : Nat.beq t asserted
          · have hne2 : ¬ t = asserted := by intro e; subst e; simp at hb
            simp only [hb, cond_false] at h
            obtain ⟨z, h1, h2⟩ := fails (some xt) (some t) "" h
            refine ⟨z, ?_, h2⟩
            simp only [Instr.typeAssert, Sem.run_bind, hk, Result.andThen_ok]
            cases hd : ti.desc <;> first
              | (simp only [hne2, if_false]; exact h1)
              | (exact absurd hd (hne _))
          · have he := Nat.eq_of_beq_eq_true hb
            subst he
            simp only [hb, cond_true, Option.some.injEq] at h; subst h
            refine ⟨if ok then .tuple #[v', .bool true] else v', ?_, ?_⟩
            · simp only [Instr.typeAssert, Sem.run_bind, hk, Result.andThen_ok]
              cases hd : ti.desc <;> first
                | (simp only [if_true]; rfl)
                | (exact absurd hd (hne _))
            · cases ok
              · exact hv
              · exact tuple2 hv (.bool _)
      · cases hx
        obtain ⟨z, h1, h2⟩ := fails (some xt) none "" h
        refine ⟨z, ?_, h2⟩
        simp only [Instr.typeAssert, Sem.run_bind, hk, Result.andThen_ok]
        cases hd : ti.desc <;> first
          | exact h1
          | (exact absurd hd (hne _))
      · simp at h
  · simp at h

theorem aExtract_ok {x r : AV} {x' : Value} {i : Nat} (hx : VR ι x x') (h : aExtract x i = some r) : ∃ v, (Instr.extract x' i).run P w = .ok v w ∧ VR ι r v := by
  cases hx with
  | tuple cs cs' hs hv =>
    simp only [aExtract] at h
    obtain ⟨v, h1, h2⟩ := VRs.get ⟨hs, hv⟩ h
    exact ⟨v, by simp only [Instr.extract, h1, Sem.run_pure], h2⟩
  | _ => simp [aExtract] at h
end
end
end Go.Ax
