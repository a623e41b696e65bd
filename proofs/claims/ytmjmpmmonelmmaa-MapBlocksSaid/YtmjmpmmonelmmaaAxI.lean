/-
  OWN WORK, TOLD ONCE FOR ALL TEXTS YtmjmpmmonelmmaaAxA TO YtmjmpmmonelmmaaAxU: an abstract machine for the program's text that the kernel can run, and the proof that it is sound: what it answers is what the program answers. No condition.
-/
import Derived.Test.YtmjmpmmonelmmaaAxH
namespace Go.Ax
noncomputable section
open Go.RowKit

/-! ### Slicing -/
/-- a bound: none there; or a number -/
def optN : Option AV → Option (Option Nat)
  | none => some none
  | some v => match asN v with | some n => some (some n) | none => none

def OVR (ι : Ren) : Option AV → Option Value → Prop
  | none, none => True
  | some a, some v => VR ι a v
  | _, _ => False

/-- low, high, max out of what is given, a length, a capacity: checked -/
def aBounds (len cap : Nat) (lo hi mx : Option Nat) : Option (Nat × Nat × Nat) :=
  match mx with
  | some m =>
    match hi with
    | some h =>
      let l := match lo with | some l => l | none => 0
      bif Nat.ble m cap then bif Nat.ble h m then bif Nat.ble l h then some (l, h, m) else none else none else none
    | none => none
  | none =>
    let h := match hi with | some h => h | none => len
    let l := match lo with | some l => l | none => 0
    bif (match hi with | some h => Nat.ble h cap | none => true) then bif (match lo with | some l => Nat.ble l h | none => true) then some (l, h, cap) else none else none

/-- how many elements there are at least room for -/
def aRoom (st : ASt) (i o z len : Nat) : Nat :=
  match st.h.get i with
  | some (.cells cs _) => bif Nat.beq z 0 then len else Nat.max len (Nat.div (Nat.sub cs.length o) z)
  | _ => len

def aSlice (E : Env) (t : TypeId) (x : AV) (lo hi mx : Option AV) (st : ASt) : Option AV :=
  match E.ty.get t with
  | none => none
  | some ti =>
    match optN lo with
    | none => none
    | some lo =>
    match optN hi with
    | none => none
    | some hi =>
    match optN mx with
    | none => none
    | some mx =>
    match ti.desc with
    | .string =>
      match x with
      | .str s =>
        match mx with
        | some _ => none
        | none =>
          match aBounds s.length s.length lo hi none with
          | some (l, h, _) => some (.str ((s.drop l).take (h - l)))
          | none => none
      | _ => none
    | .array n e =>
      match x with
      | .ptr (some (i, o)) =>
        match aBounds n n lo hi mx with
        | some (l, h, m) =>
          match E.ty.get e with
          | some ei => some (.slice (some (i, bif Nat.beq m l then o else o + l * ei.size)) (h - l) (.known (m - l)))
          | none => none
        | none => none
      | _ => none
    | .slice e =>
      match E.ty.get e with
      | none => none
      | some ei =>
      match x with
      | .slice none len (.known c) =>
        match aBounds len c lo hi mx with
        | some (l, h, m) => some (.slice none (h - l) (.known (m - l)))
        | none => none
      | .slice (some (i, o)) len (.known c) =>
        match aBounds len c lo hi mx with
        | some (l, h, m) => some (.slice (some (i, bif Nat.beq m l then o else o + l * ei.size)) (h - l) (.known (m - l)))
        | none => none
      | .slice (some (i, o)) len (.rest z) =>
        bif Nat.beq z ei.size then
          let know := aRoom st i o z len
          match aBounds len know lo hi mx with
          | some (l, h, m) =>
            match mx with
            | some _ => some (.slice (some (i, bif Nat.beq m l then o else o + l * ei.size)) (h - l) (.known (m - l)))
            | none =>
              bif Nat.blt l know then some (.slice (some (i, o + l * ei.size)) (h - l) (.rest z))
              else bif Nat.beq l 0 then some (.slice (some (i, o)) 0 (.rest z)) else some .slice0
          | none => none
        else none
      | .slice (some (i, o)) len (.atl c) =>
        let know := Nat.max len c
        match aBounds len know lo hi mx with
        | some (l, h, m) =>
          match mx with
          | some _ => some (.slice (some (i, bif Nat.beq m l then o else o + l * ei.size)) (h - l) (.known (m - l)))
          | none =>
            bif Nat.blt l know then some (.slice (some (i, o + l * ei.size)) (h - l) (.atl (know - l)))
            else bif Nat.beq l 0 then some (.slice (some (i, o)) 0 (.atl 0)) else some .slice0
        | none => none
      | .slice0 =>
        match mx with
        | some _ => none
        | none => match aBounds 0 0 lo hi none with | some _ => some .slice0 | none => none
      | _ => none
    | _ => none

section
variable {P : Program} {E : Env} {B : Prot} {w0 : World} {ι : Ren} {st : ASt} {w : World}

theorem asN_ok {a : AV} {v : Value} {n : Nat} (h : VR ι a v) (hn : asN a = some n) : ∃ k, v = .int k (n : Int) := by
  cases h with
  | int k m =>
    cases m with
    | ofNat m => simp [asN] at hn; subst hn; exact ⟨k, rfl⟩
    | negSucc m => simp [asN] at hn
  | _ => simp [asN] at hn

theorem optN_ok {a : Option AV} {v : Option Value} {n : Option Nat} (h : OVR ι a v) (hn : optN a = some n) :
    (n = none ∧ v = none) ∨ ∃ m k, n = some m ∧ v = some (.int k (m : Int)) := by
  cases a with
  | none =>
    cases v with
    | none => simp [optN] at hn; exact .inl ⟨hn.symm, rfl⟩
    | some v => exact h.elim
  | some a =>
    cases v with
    | none => exact h.elim
    | some v =>
      simp only [optN] at hn
      split at hn
      · rename_i m hm
        simp only [Option.some.injEq] at hn; subst hn
        obtain ⟨k, hk⟩ := asN_ok h hm
        exact .inr ⟨m, k, rfl, by rw [hk]⟩
      · simp at hn

theorem run_bound {k : IntKind} {n y : Nat} (h : n ≤ y) (code : BoundsCode) : (Instr.sliceBound (.int k (n : Int)) y code).run P w = .ok n w := by
  have h0 : (0 : Int) ≤ (n : Int) ∧ (n : Int) ≤ (y : Int) := ⟨by omega, by omega⟩
  simp only [Instr.sliceBound, asIntOf, Sem.run_bind, Sem.run_pure, Result.andThen_ok, h0, and_self, if_true, Int.toNat_natCast]

theorem ble_le {a b : Nat} (h : Nat.ble a b = true) : a ≤ b := by rw [← Nat.ble_eq]; exact h

theorem bounds_ok {isS : Bool} {len cap : Nat} {lo hi mx : Option Value} {lo' hi' mx' : Option Nat} {l h m : Nat} (hb : aBounds len cap lo' hi' mx' = some (l, h, m))
    (hl : (lo' = none ∧ lo = none) ∨ ∃ q k, lo' = some q ∧ lo = some (.int k (q : Int))) (hh : (hi' = none ∧ hi = none) ∨ ∃ q k, hi' = some q ∧ hi = some (.int k (q : Int)))
    (hm : (mx' = none ∧ mx = none) ∨ ∃ q k, mx' = some q ∧ mx = some (.int k (q : Int))) (hle : len ≤ cap) (cap' : Nat) (hcc : cap ≤ cap') :
    ∃ m', (Instr.sliceBounds isS len cap' lo hi mx).run P w = .ok (l, h, m') w ∧ l ≤ h ∧ h ≤ m ∧ m ≤ cap ∧ (mx' = none → m = cap ∧ m' = cap') ∧ (mx' ≠ none → m' = m) := by
  rcases hm with ⟨rfl, rfl⟩ | ⟨qm, km, rfl, rfl⟩
  · simp only [aBounds] at hb
    rcases hh with ⟨rfl, rfl⟩ | ⟨qh, kh, rfl, rfl⟩
    · simp only [cond_true] at hb
      rcases hl with ⟨rfl, rfl⟩ | ⟨ql, kl, rfl, rfl⟩
      · simp only [cond_true, Option.some.injEq, Prod.mk.injEq] at hb
        obtain ⟨rfl, rfl, rfl⟩ := hb
        exact ⟨cap', by simp [Instr.sliceBounds], by omega, hle, Nat.le_refl _, fun _ => ⟨rfl, rfl⟩, fun e => absurd rfl e⟩
      · cases h1 : Nat.ble ql len
        · simp only [h1, cond_false, reduceCtorEq] at hb
        · simp only [h1, cond_true, Option.some.injEq, Prod.mk.injEq] at hb
          obtain ⟨rfl, rfl, rfl⟩ := hb
          have := ble_le h1
          exact ⟨cap', by simp [Instr.sliceBounds, run_bound this], this, hle, Nat.le_refl _, fun _ => ⟨rfl, rfl⟩, fun e => absurd rfl e⟩
    · cases h2 : Nat.ble qh cap
      · simp only [h2, cond_false, reduceCtorEq] at hb
      · simp only [h2, cond_true] at hb
        have hqh := ble_le h2
        rcases hl with ⟨rfl, rfl⟩ | ⟨ql, kl, rfl, rfl⟩
        · simp only [cond_true, Option.some.injEq, Prod.mk.injEq] at hb
          obtain ⟨rfl, rfl, rfl⟩ := hb
          exact ⟨cap', by simp [Instr.sliceBounds, run_bound (Nat.le_trans hqh hcc)], by omega, hqh, Nat.le_refl _, fun _ => ⟨rfl, rfl⟩, fun e => absurd rfl e⟩
        · cases h1 : Nat.ble ql qh
          · simp only [h1, cond_false, reduceCtorEq] at hb
          · simp only [h1, cond_true, Option.some.injEq, Prod.mk.injEq] at hb
            obtain ⟨rfl, rfl, rfl⟩ := hb
            have := ble_le h1
            exact ⟨cap', by simp [Instr.sliceBounds, run_bound (Nat.le_trans hqh hcc), run_bound this], this, hqh, Nat.le_refl _, fun _ => ⟨rfl, rfl⟩, fun e => absurd rfl e⟩
  · simp only [aBounds] at hb
    rcases hh with ⟨rfl, rfl⟩ | ⟨qh, kh, rfl, rfl⟩
    · simp at hb
    · simp only at hb
      cases h3 : Nat.ble qm cap
      · simp only [h3, cond_false, reduceCtorEq] at hb
      · simp only [h3, cond_true] at hb
        cases h2 : Nat.ble qh qm
        · simp only [h2, cond_false, reduceCtorEq] at hb
        · simp only [h2, cond_true] at hb
          have hqm := ble_le h3
          have hqh := ble_le h2
          rcases hl with ⟨rfl, rfl⟩ | ⟨ql, kl, rfl, rfl⟩
          · have h1 : Nat.ble 0 qh = true := by cases qh <;> rfl
            simp only [h1, cond_true, Option.some.injEq, Prod.mk.injEq] at hb
            obtain ⟨rfl, rfl, rfl⟩ := hb
            exact ⟨qm, by simp [Instr.sliceBounds, run_bound (Nat.le_trans hqm hcc), run_bound hqh], by omega, hqh, hqm, fun e => by simp at e, fun _ => rfl⟩
          · cases h1 : Nat.ble ql qh
            · simp only [h1, cond_false, reduceCtorEq] at hb
            · simp only [h1, cond_true, Option.some.injEq, Prod.mk.injEq] at hb
              obtain ⟨rfl, rfl, rfl⟩ := hb
              have := ble_le h1
              exact ⟨qm, by simp [Instr.sliceBounds, run_bound (Nat.le_trans hqm hcc), run_bound hqh, run_bound this], this, hqh, hqm, fun e => by simp at e, fun _ => rfl⟩

theorem addr_if (L : Loc) (o l s m : Nat) : (if m = l then (⟨L.b, L.p + o, none⟩ : Addr) else Addr.add ⟨L.b, L.p + o, none⟩ (l * s)) = ⟨L.b, L.p + (bif Nat.beq m l then o else o + l * s), none⟩ := by
  rw [beq_dec, add_none]
  by_cases h : m = l <;> simp [h, Nat.add_assoc]

theorem aRoom_ok (h : SR B w0 ι st w) {i o z len c' : Nat} {L : Loc} (hL : ι i = some L) (hc : L.p + o + c' * z = L.tot) (hl : len ≤ c') : len ≤ aRoom st i o z len ∧ aRoom st i o z len ≤ c' := by
  simp only [aRoom]
  split
  · rename_i cs rw hi
    cases hz : Nat.beq z 0
    · simp only [cond_false]
      refine ⟨Nat.le_max_left _ _, Nat.max_le.2 ⟨hl, ?_⟩⟩
      obtain ⟨L', ob, h1, h2, h3⟩ := h.obj i _ hi (by simp)
      rw [hL] at h1; cases h1
      obtain ⟨c, e, lo, hi', g1, g2, g3, _⟩ := h3
      have hz0 : 0 < z := by
        rcases Nat.eq_zero_or_pos z with e | e
        · subst e; simp at hz
        · exact e
      show (cs.length - o) / z ≤ c'
      refine Nat.div_le_of_le_mul ?_
      rw [Nat.mul_comm]; omega
    · simp only [cond_true]; exact ⟨Nat.le_refl _, hl⟩
  · exact ⟨Nat.le_refl _, hl⟩

theorem aSlice_ok (hE : E.Ok P) (hsr : SR B w0 ι st w) {t : TypeId} {x r : AV} {x' : Value} {lo hi mx : Option AV} {lo' hi' mx' : Option Value} (hx : VR ι x x') (hl : OVR ι lo lo') (hh : OVR ι hi hi')
    (hm : OVR ι mx mx') (hr : aSlice E t x lo hi mx st = some r) : ∃ v, (Instr.sliceAt t x' lo' hi' mx').run P w = .ok v w ∧ VR ι r v := by
  simp only [aSlice] at hr
  split at hr
  · simp at hr
  rename_i ti hti
  split at hr
  · simp at hr
  rename_i nlo hnlo
  split at hr
  · simp at hr
  rename_i nhi hnhi
  split at hr
  · simp at hr
  rename_i nmx hnmx
  have hl' := optN_ok hl hnlo
  have hh' := optN_ok hh hnhi
  have hm' := optN_ok hm hnmx
  have hk := (mkTI_ok (hE.ty _ _ hti)).run_und w
  split at hr
  · rename_i hd
    rw [hd] at hk
    split at hr
    · rename_i s
      cases hx with
      | str _ s' hs =>
        split at hr
        · simp at hr
        · rcases hm' with ⟨_, hmn⟩ | ⟨q, k, hq, _⟩
          · subst hmn
            split at hr
            · rename_i l h m hb
              simp only [Option.some.injEq] at hr; subst hr
              have hsz : s.length = s'.size := by rw [← hs]; simp
              obtain ⟨m', h1, h2, h3, h4, h5, h6⟩ := bounds_ok (P := P) (w := w) (isS := false) (lo := lo') (hi := hi') (mx := none) hb hl' hh' (.inl ⟨rfl, rfl⟩) (Nat.le_refl _) _ (Nat.le_refl _)
              rw [hsz] at h1
              refine ⟨.string (s'.extract l h), ?_, .str _ _ ?_⟩
              · simp only [Instr.sliceAt, Sem.run_bind, hk, Result.andThen_ok, Instr.slice, Option.isSome_none, Bool.false_eq_true, if_false, h1, Sem.run_pure]
              · rw [← hs, ByteArray.data_extract]
                simp [List.map_take, List.map_drop, List.extract_eq_take_drop]
            · simp at hr
          · simp at hq
    · simp at hr
  · rename_i n e hd
    rw [hd] at hk
    split at hr
    · rename_i i o
      cases hx with
      | ptr _ _ L hL =>
        split at hr
        · rename_i l h m hb
          split at hr
          · rename_i ei hei
            simp only [Option.some.injEq] at hr; subst hr
            obtain ⟨m', h1, h2, h3, h4, h5, h6⟩ := bounds_ok (P := P) (w := w) (isS := false) (lo := lo') (hi := hi') (mx := mx') hb hl' hh' hm' (Nat.le_refl _) _ (Nat.le_refl _)
            have em : m' = m := by by_cases e : nmx = none
                                   · have := h5 e; omega
                                   · exact h6 e
            rw [em] at h1
            have hs := (mkTI_ok (hE.ty _ _ hei)).run_size w
            refine ⟨.slice (some ⟨L.b, L.p + (bif Nat.beq m l then o else o + l * ei.size), none⟩) (h - l) (m - l), ?_, .slice _ _ _ _ L _ hL rfl (by omega)⟩
            simp only [Instr.sliceAt, Sem.run_bind, hk, Result.andThen_ok, Instr.sureAddr, Sem.run_pure, h1, hs, addr_if]
          · simp at hr
        · simp at hr
    · simp at hr
  · rename_i e hd
    rw [hd] at hk
    split at hr
    · simp at hr
    rename_i ei hei
    have hs := (mkTI_ok (hE.ty _ _ hei)).run_size w
    split at hr
    · rename_i len c
      cases hx
      split at hr
      · rename_i l h m hb
        simp only [Option.some.injEq] at hr; subst hr
        obtain ⟨m', h1, h2, h3, h4, h5, h6⟩ := bounds_ok (P := P) (w := w) (isS := true) (lo := lo') (hi := hi') (mx := mx') hb hl' hh' hm' (Nat.le_refl _) _ (Nat.le_refl _)
        have em : m' = 0 ∧ m = 0 := by
          by_cases e : nmx = none
          · have := h5 e; omega
          · have := h6 e; omega
        have e1 : h = 0 := by omega
        have e2 : l = 0 := by omega
        obtain ⟨rfl, rfl⟩ := em
        subst e1; subst e2
        refine ⟨.slice none 0 0, ?_, .sliceN⟩
        simp only [Instr.sliceAt, Sem.run_bind, hk, Result.andThen_ok, Instr.slice, h1, hs, Sem.run_pure, Option.map_none, ite_self, Nat.sub_self]
      · simp at hr
    · rename_i i o len c
      cases hx with
      | slice _ _ _ c' L _ hL hc hlen =>
        have hc : c = c' := hc
        subst hc
        split at hr
        · rename_i l h m hb
          simp only [Option.some.injEq] at hr; subst hr
          obtain ⟨m', h1, h2, h3, h4, h5, h6⟩ := bounds_ok (P := P) (w := w) (isS := true) (lo := lo') (hi := hi') (mx := mx') hb hl' hh' hm' hlen _ (Nat.le_refl _)
          have em : m' = m := by by_cases e : nmx = none
                                 · have := h5 e; omega
                                 · exact h6 e
          rw [em] at h1
          refine ⟨.slice (some ⟨L.b, L.p + (bif Nat.beq m l then o else o + l * ei.size), none⟩) (h - l) (m - l), ?_, .slice _ _ _ _ L _ hL rfl (by omega)⟩
          simp only [Instr.sliceAt, Sem.run_bind, hk, Result.andThen_ok, Instr.slice, h1, hs, Sem.run_pure, Option.map_some, ← addr_if]
          congr 2
          split <;> rfl
        · simp at hr
    · rename_i i o len z
      cases hx with
      | slice _ _ _ c' L _ hL hc hlen =>
        have hc : L.p + o + c' * z = L.tot := hc
        cases hz : Nat.beq z ei.size
        · simp only [hz, cond_false, reduceCtorEq] at hr
        simp only [hz, cond_true] at hr
        have hz' := Nat.eq_of_beq_eq_true hz
        obtain ⟨hk1, hk2⟩ := aRoom_ok hsr hL hc hlen
        generalize aRoom st i o z len = know at hr hk1 hk2
        split at hr
        · rename_i l h m hb
          obtain ⟨m', h1, h2, h3, h4, h5, h6⟩ := bounds_ok (P := P) (w := w) (isS := true) (lo := lo') (hi := hi') (mx := mx') hb hl' hh' hm' hk1 c' hk2
          have run : (Instr.sliceAt t (.slice (some ⟨L.b, L.p + o, none⟩) len c') lo' hi' mx').run P w =
              .ok (.slice (some ⟨L.b, L.p + (bif Nat.beq m' l then o else o + l * ei.size), none⟩) (h - l) (m' - l)) w := by
            simp only [Instr.sliceAt, Sem.run_bind, hk, Result.andThen_ok, Instr.slice, h1, hs, Sem.run_pure, Option.map_some, ← addr_if]
            congr 2
            split <;> rfl
          refine ⟨_, run, ?_⟩
          split at hr
          · simp only [Option.some.injEq] at hr; subst hr
            have em : m' = m := h6 (by simp)
            subst em
            exact .slice _ _ _ _ L _ hL rfl (by omega)
          · have em := h5 rfl
            obtain ⟨em1, em2⟩ := em
            subst em2
            cases hlt : Nat.blt l know
            · simp only [hlt, cond_false] at hr
              have hge : know ≤ l := by
                have : ¬ l < know := by intro e; rw [← Nat.blt_eq] at e; rw [e] at hlt; simp at hlt
                omega
              have e1 : h - l = 0 := by omega
              cases hl0 : Nat.beq l 0
              · simp only [hl0, cond_false, Option.some.injEq] at hr; subst hr
                rw [e1]; exact .slice0 _ _
              · simp only [hl0, cond_true, Option.some.injEq] at hr; subst hr
                have := Nat.eq_of_beq_eq_true hl0
                subst this
                have e2 : (bif Nat.beq m' 0 then o else o + 0 * ei.size) = o := by cases Nat.beq m' 0 <;> simp
                rw [e1, e2]
                exact .slice _ _ _ _ L _ hL hc (by omega)
            · simp only [hlt, cond_true, Option.some.injEq] at hr; subst hr
              have hlt' : l < know := by rw [← Nat.blt_eq]; exact hlt
              have e2 : Nat.beq m' l = false := by
                cases e : Nat.beq m' l
                · rfl
                · have := Nat.eq_of_beq_eq_true e; omega
              rw [e2]
              simp only [cond_false]
              refine .slice _ _ _ _ L _ hL ?_ (by omega)
              show L.p + (o + l * ei.size) + (m' - l) * z = L.tot
              rw [hz'] at hc ⊢
              rw [← hc, Nat.sub_mul]
              have : l * ei.size ≤ m' * ei.size := Nat.mul_le_mul_right _ (by omega)
              omega
        · simp at hr
    · rename_i i o len cc
      cases hx with
      | slice _ _ _ c' L _ hL hc hlen =>
        have hc : cc ≤ c' := hc
        have hk1 : len ≤ Nat.max len cc := Nat.le_max_left _ _
        have hk2 : Nat.max len cc ≤ c' := Nat.max_le.2 ⟨hlen, hc⟩
        generalize Nat.max len cc = know at hr hk1 hk2
        split at hr
        · rename_i l h m hb
          obtain ⟨m', h1, h2, h3, h4, h5, h6⟩ := bounds_ok (P := P) (w := w) (isS := true) (lo := lo') (hi := hi') (mx := mx') hb hl' hh' hm' hk1 c' hk2
          have run : (Instr.sliceAt t (.slice (some ⟨L.b, L.p + o, none⟩) len c') lo' hi' mx').run P w =
              .ok (.slice (some ⟨L.b, L.p + (bif Nat.beq m' l then o else o + l * ei.size), none⟩) (h - l) (m' - l)) w := by
            simp only [Instr.sliceAt, Sem.run_bind, hk, Result.andThen_ok, Instr.slice, h1, hs, Sem.run_pure, Option.map_some, ← addr_if]
            congr 2
            split <;> rfl
          refine ⟨_, run, ?_⟩
          split at hr
          · simp only [Option.some.injEq] at hr; subst hr
            have em : m' = m := h6 (by simp)
            subst em
            exact .slice _ _ _ _ L _ hL rfl (by omega)
          · have em := h5 rfl
            obtain ⟨em1, em2⟩ := em
            subst em2
            cases hlt : Nat.blt l know
            · simp only [hlt, cond_false] at hr
              have hge : know ≤ l := by
                have : ¬ l < know := by intro e; rw [← Nat.blt_eq] at e; rw [e] at hlt; simp at hlt
                omega
              have e1 : h - l = 0 := by omega
              cases hl0 : Nat.beq l 0
              · simp only [hl0, cond_false, Option.some.injEq] at hr; subst hr
                rw [e1]; exact .slice0 _ _
              · simp only [hl0, cond_true, Option.some.injEq] at hr; subst hr
                have := Nat.eq_of_beq_eq_true hl0
                subst this
                have e2 : (bif Nat.beq m' 0 then o else o + 0 * ei.size) = o := by cases Nat.beq m' 0 <;> simp
                rw [e1, e2]
                exact .slice _ _ _ _ L _ hL (Nat.zero_le _) (by omega)
            · simp only [hlt, cond_true, Option.some.injEq] at hr; subst hr
              have hlt' : l < know := by rw [← Nat.blt_eq]; exact hlt
              have e2 : Nat.beq m' l = false := by
                cases e : Nat.beq m' l
                · rfl
                · have := Nat.eq_of_beq_eq_true e; omega
              rw [e2]
              simp only [cond_false]
              exact .slice _ _ _ _ L _ hL (show _ ≤ _ by omega) (by omega)
        · simp at hr
    · cases hx with
      | slice0 a0 c' =>
        split at hr
        · simp at hr
        · rcases hm' with ⟨_, hmn⟩ | ⟨q, k, hq, _⟩
          · subst hmn
            split at hr
            · rename_i b hb
              obtain ⟨l, h, m⟩ := b
              simp only [Option.some.injEq] at hr; subst hr
              obtain ⟨m', h1, h2, h3, h4, h5, h6⟩ := bounds_ok (P := P) (w := w) (isS := true) (lo := lo') (hi := hi') (mx := none) hb hl' hh' (.inl ⟨rfl, rfl⟩) (Nat.le_refl 0) c' (Nat.zero_le _)
              have e1 : h = 0 := by have := h5 rfl; omega
              have e2 : l = 0 := by omega
              subst e1; subst e2
              refine ⟨.slice (some (if m' = 0 then a0 else Addr.add a0 (0 * ei.size))) 0 m', ?_, .slice0 _ _⟩
              simp only [Instr.sliceAt, Sem.run_bind, hk, Result.andThen_ok, Instr.slice, h1, hs, Sem.run_pure, Option.map_some, Nat.sub_zero]
              congr 2
              split <;> rfl
            · simp at hr
          · simp at hq
    · simp at hr
  · simp at hr
end
end
end Go.Ax
