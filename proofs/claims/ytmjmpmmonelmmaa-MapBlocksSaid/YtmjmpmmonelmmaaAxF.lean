/-
  OWN WORK, TOLD ONCE FOR ALL TEXTS YtmjmpmmonelmmaaAxA TO YtmjmpmmonelmmaaAxU: an abstract machine for the program's text that the kernel can run, and the proof that it is sound: what it answers is what the program answers. No condition.
-/
import Derived.Test.YtmjmpmmonelmmaaAxE
import Derived.Laws.StructEq
namespace Go.Ax
noncomputable section
open Go.RowKit

/-! ### Equality -/
def kidx : IntKind → Nat
  | .i8 => 0 | .i16 => 1 | .i32 => 2 | .i64 => 3 | .u8 => 4 | .u16 => 5 | .u32 => 6 | .u64 => 7

def kEq (a b : IntKind) : Bool := Nat.beq (kidx a) (kidx b)

theorem kEq_eq {a b : IntKind} (h : kEq a b = true) : a = b := by
  cases a <;> cases b <;> first | rfl | (simp [kEq, kidx] at h)

def lEq : List Nat → List Nat → Bool
  | [], [] => true
  | a :: as, b :: bs => bif Nat.beq a b then lEq as bs else false
  | _, _ => false

theorem lEq_eq : ∀ (a b : List Nat), lEq a b = (a == b)
  | [], [] => rfl
  | [], _ :: _ => rfl
  | _ :: _, [] => rfl
  | a :: as, b :: bs => by
    simp only [lEq, beq_dec, lEq_eq as bs]
    by_cases h : a = b <;> simp [h]

theorem str_eq {ι : Ren} {l m : List Nat} {s r : ByteArray} (h1 : VR ι (.str l) (.string s)) (h2 : VR ι (.str m) (.string r)) : (s.toList == r.toList) = lEq l m := by
  cases h1 with
  | str _ _ h1 =>
  cases h2 with
  | str _ _ h2 =>
    rw [lEq_eq, ByteArray.toList_eq, ByteArray.toList_eq, ← h1, ← h2]
    generalize s.data.toList = a
    generalize r.data.toList = b
    rw [Bool.eq_iff_iff, beq_iff_eq, beq_iff_eq]
    constructor
    · intro h; rw [h]
    · intro h
      have inj : ∀ (a b : List UInt8), a.map UInt8.toNat = b.map UInt8.toNat → a = b := by
        intro a
        induction a with
        | nil => intro b h; cases b <;> simp_all
        | cons x a ih =>
          intro b h
          cases b with
          | nil => simp at h
          | cons y b =>
            simp at h
            rw [UInt8.toNat_inj.1 h.1, ih b h.2]
      exact inj a b h

def eqFs (E : Env) (eq : TypeId → AV → AV → Option Bool) (xs ys : List AV) : List (TypeId × Nat) → Option Bool
  | [] => some true
  | f :: fs =>
    match aPart E f.1 xs f.2 with
    | some a =>
      match aPart E f.1 ys f.2 with
      | some b =>
        match eq f.1 a b with
        | some true => eqFs E eq xs ys fs
        | some false => some false
        | none => none
      | none => none
    | none => none

def eqIs (E : Env) (eq : TypeId → AV → AV → Option Bool) (e : TypeId) (sz : Nat) (xs ys : List AV) : Nat → Nat → Option Bool
  | 0, _ => some true
  | n + 1, i =>
    match aPart E e xs (i * sz) with
    | some a =>
      match aPart E e ys (i * sz) with
      | some b =>
        match eq e a b with
        | some true => eqIs E eq e sz xs ys n (i + 1)
        | some false => some false
        | none => none
      | none => none
    | none => none

def eqLs (eq : TypeId → AV → AV → Option Bool) (e : TypeId) : Nat → List AV → List AV → Option Bool
  | 0, _, _ => some true
  | n + 1, x :: xs, y :: ys =>
    match eq e x y with
    | some true => eqLs eq e n xs ys
    | some false => some false
    | none => none
  | _ + 1, _, _ => none

def boolEq : Bool → Bool → Bool
  | true, b => b
  | false, true => false
  | false, false => true

/-- equality of values that are no aggregates -/
def aEq0 (d : TypeDesc) (x y : AV) : Option Bool :=
  match d with
  | .bool => match x, y with
    | .bool a, .bool b => some (boolEq a b)
    | _, _ => none
  | .int _ => match x, y with
    | .int k a, .int k' b => bif kEq k k' then some (eqF a b) else none
    | _, _ => none
  | .string => match x, y with
    | .str a, .str b => some (lEq a b)
    | _, _ => none
  | .pointer _ => match x, y with
    | .ptr none, .ptr none => some true
    | .ptr none, .ptr (some _) => some false
    | .ptr (some _), .ptr none => some false
    | _, _ => none
  | .interface _ => match x, y with
    | .nilIface, .nilIface => some true
    | .nilIface, .iface _ _ => some false
    | .iface _ _, .nilIface => some false
    | _, _ => none
  | .slice _ => match x, y with
    | .slice none _ _, .slice none _ _ => some true
    | .slice none _ _, .slice (some _) _ _ => some false
    | .slice (some _) _ _, .slice none _ _ => some false
    | .slice0, .slice none _ _ => some false
    | .slice none _ _, .slice0 => some false
    | _, _ => none
  | .map _ _ => match x, y with
    | .map none, .map none => some true
    | .map none, .map (some _) => some false
    | .map (some _), .map none => some false
    | _, _ => none
  | .func _ _ _ => match x, y with
    | .nilFunc, .nilFunc => some true
    | .nilFunc, .clos _ _ => some false
    | .clos _ _, .nilFunc => some false
    | .nilFunc, .yield _ => some false
    | .yield _, .nilFunc => some false
    | _, _ => none
  | _ => none

def aEq (E : Env) : Nat → TypeId → AV → AV → Option Bool
  | 0 => fun _ _ _ => none
  | d + 1 => fun t x y =>
    match E.ty.get t with
    | none => none
    | some ti =>
      match x with
      | .agg xs =>
        match y with
        | .agg ys =>
          match ti.desc with
          | .struct _ => bif ti.held then none else eqFs E (aEq E d) xs ys ti.fl
          | .array n e =>
            match E.ty.get e with
            | some ei =>
              bif isAggD ei.desc then eqIs E (aEq E d) e ei.size xs ys n 0
              else bif Nat.beq ei.size 1 then eqLs (fun _ x y => aEq0 ei.desc x y) e n xs ys else none
            | none => none
          | _ => none
        | _ => none
      | x => aEq0 ti.desc x y

section
variable {P : Program} {E : Env} {ι : Ren} {w : World}

theorem aEq0_ok {t : TypeId} {dd : TypeDesc} (hd : P.underlying t = some dd) {x y : AV} {x' y' : Value} {b : Bool} (hx : VR ι x x') (hy : VR ι y y')
    (h : aEq0 dd x y = some b) (d : Nat) : (Op.equalIn (d + 1) t x' y').run P w = .ok b w := by
  have hu := run_underlying hd w
  cases dd <;> simp only [aEq0, reduceCtorEq] at h
  case bool =>
    split at h
    · rename_i a c
      cases hx; cases hy
      simp only [Option.some.injEq] at h; subst h
      simp only [Op.equalIn, Sem.run_bind, hu, Result.andThen_ok, Sem.run_pure]
      cases a <;> cases c <;> rfl
    · simp at h
  case int kk =>
    split at h
    · rename_i k a k' c
      cases hx; cases hy
      cases hk : kEq k k'
      · simp only [hk, cond_false, reduceCtorEq] at h
      · simp only [hk, cond_true, Option.some.injEq] at h; subst h
        have := kEq_eq hk
        subst this
        simp only [Op.equalIn, Sem.run_bind, hu, Result.andThen_ok, if_true, Sem.run_pure, eqF_eq]
    · simp at h
  case string =>
    split at h
    · rename_i a c
      cases hx with
      | str _ s hs =>
      cases hy with
      | str _ r hr =>
        simp only [Option.some.injEq] at h; subst h
        simp only [Op.equalIn, Sem.run_bind, hu, Result.andThen_ok, Sem.run_pure, beq_toListBytes]
        rw [str_eq (ι := ι) (.str _ s hs) (.str _ r hr)]
    · simp at h
  case pointer e =>
    split at h <;> simp only [Option.some.injEq, reduceCtorEq] at h <;> subst h <;> cases hx <;> cases hy <;>
      simp [Op.equalIn, hu]
  case interface e =>
    split at h <;> simp only [Option.some.injEq, reduceCtorEq] at h <;> subst h <;> cases hx <;> cases hy <;>
      simp [Op.equalIn, hu]
  case slice e =>
    split at h <;> simp only [Option.some.injEq, reduceCtorEq] at h <;> subst h <;> cases hx <;> cases hy <;>
      simp [Op.equalIn, hu]
  case map e f =>
    split at h <;> simp only [Option.some.injEq, reduceCtorEq] at h <;> subst h <;> cases hx <;> cases hy <;>
      simp [Op.equalIn, hu]
  case func e f g =>
    split at h <;> simp only [Option.some.injEq, reduceCtorEq] at h <;> subst h <;> cases hx <;> cases hy <;>
      simp only [Op.equalIn, Sem.run_bind, hu, Result.andThen_ok, Sem.run_pure]

theorem eqFs_ok (hE : E.Ok P) {xs ys : List AV} {xs' ys' : Array Value} (hx : VRs ι xs xs') (hy : VRs ι ys ys') (hcx : ∀ v, v ∈ xs → v.isCell = true) (hcy : ∀ v, v ∈ ys → v.isCell = true)
    {eq : TypeId → AV → AV → Option Bool} {d : Nat} (heq : ∀ t x y x' y' b, VR ι x x' → VR ι y y' → eq t x y = some b → (Op.equalIn d t x' y').run P w = .ok b w) :
    ∀ (fs : List Field) (b : Bool), eqFs E eq xs ys ((fs.filter fun f => f.name ≠ "_").map fun f => (f.type, f.offset)) = some b → (Op.eqFields d xs' ys' fs).run P w = .ok b w
  | [], b, h => by simp [eqFs] at h; subst h; rfl
  | f :: fs, b, h => by
    by_cases hf : f.name ≠ "_"
    · have hf' : (decide (f.name ≠ "_")) = true := by simpa using hf
      simp only [List.filter_cons, hf', if_true, List.map_cons, eqFs] at h
      split at h
      · rename_i a ha
        split at h
        · rename_i c hc
          obtain ⟨v1, h1, r1⟩ := aPart_ok (P := P) (w := w) hE hx hcx ha
          obtain ⟨v2, h2, r2⟩ := aPart_ok (P := P) (w := w) hE hy hcy hc
          split at h
          · rename_i hq
            have h3 := heq _ _ _ _ _ _ r1 r2 hq
            simp only [Op.eqFields, hf, ne_eq, not_false_eq_true, if_true, Sem.run_bind, h1, Result.andThen_ok, h2, h3, Bool.not_true, Bool.false_eq_true, if_false]
            exact eqFs_ok hE hx hy hcx hcy heq fs b h
          · rename_i hq
            have h3 := heq _ _ _ _ _ _ r1 r2 hq
            simp only [Option.some.injEq] at h; subst h
            simp only [Op.eqFields, hf, ne_eq, not_false_eq_true, if_true, Sem.run_bind, h1, Result.andThen_ok, h2, h3, Bool.not_false, if_true, Sem.run_pure]
          · simp at h
        · simp at h
      · simp at h
    · have hf' : ¬ (decide (f.name ≠ "_")) = true := by simpa using hf
      simp only [List.filter_cons, hf', if_false, Bool.false_eq_true] at h
      simp only [Op.eqFields, hf, if_false]
      exact eqFs_ok hE hx hy hcx hcy heq fs b h

theorem eqIs_ok (hE : E.Ok P) {xs ys : List AV} {xs' ys' : Array Value} (hx : VRs ι xs xs') (hy : VRs ι ys ys') (hcx : ∀ v, v ∈ xs → v.isCell = true) (hcy : ∀ v, v ∈ ys → v.isCell = true)
    {eq : TypeId → AV → AV → Option Bool} {d : Nat} (heq : ∀ t x y x' y' b, VR ι x x' → VR ι y y' → eq t x y = some b → (Op.equalIn d t x' y').run P w = .ok b w) {e : TypeId} {sz : Nat} :
    ∀ (n i : Nat) (b : Bool), eqIs E eq e sz xs ys n i = some b → (Op.eqItems d e sz xs' ys' (List.range' i n)).run P w = .ok b w
  | 0, i, b, h => by simp [eqIs] at h; subst h; rfl
  | n + 1, i, b, h => by
    simp only [eqIs] at h
    simp only [List.range'_succ]
    split at h
    · rename_i a ha
      split at h
      · rename_i c hc
        obtain ⟨v1, h1, r1⟩ := aPart_ok (P := P) (w := w) hE hx hcx ha
        obtain ⟨v2, h2, r2⟩ := aPart_ok (P := P) (w := w) hE hy hcy hc
        split at h
        · rename_i hq
          have h3 := heq _ _ _ _ _ _ r1 r2 hq
          simp only [Op.eqItems, Sem.run_bind, h1, Result.andThen_ok, h2, h3, Bool.not_true, Bool.false_eq_true, if_false]
          exact eqIs_ok hE hx hy hcx hcy heq n (i + 1) b h
        · rename_i hq
          have h3 := heq _ _ _ _ _ _ r1 r2 hq
          simp only [Option.some.injEq] at h; subst h
          simp only [Op.eqItems, Sem.run_bind, h1, Result.andThen_ok, h2, h3, Bool.not_false, if_true, Sem.run_pure]
        · simp at h
      · simp at h
    · simp at h

theorem eqLs_ok (hE : E.Ok P) {e : TypeId} {ei : TI} (hei : E.ty.get e = some ei) (hag : isAggD ei.desc = false) {d : Nat} :
    ∀ (n i : Nat) (xs ys : List AV) (xs' ys' : Array Value), (∀ (k : Nat) v v', xs[k]? = some v → xs'[i + k]? = some v' → VR ι v v') → (∀ (k : Nat) v v', ys[k]? = some v → ys'[i + k]? = some v' → VR ι v v') →
    i + xs.length ≤ xs'.size → i + ys.length ≤ ys'.size →
    ∀ b, eqLs (fun _ x y => aEq0 ei.desc x y) e n xs ys = some b → (Op.eqItems (d + 1) e 1 xs' ys' (List.range' i n)).run P w = .ok b w
  | 0, i, xs, ys, xs', ys', hx, hy, sx, sy, b, h => by simp [eqLs] at h; subst h; rfl
  | n + 1, i, [], ys, xs', ys', hx, hy, sx, sy, b, h => by simp [eqLs] at h
  | n + 1, i, x :: xs, [], xs', ys', hx, hy, sx, sy, b, h => by simp [eqLs] at h
  | n + 1, i, x :: xs, y :: ys, xs', ys', hx, hy, sx, sy, b, h => by
    have hk := mkTI_ok (hE.ty _ _ hei)
    simp only [List.length_cons] at sx sy
    have l1 : i < xs'.size := by omega
    have l2 : i < ys'.size := by omega
    have e1 : xs'[i]? = some xs'[i] := Array.getElem?_eq_getElem l1
    have e2 : ys'[i]? = some ys'[i] := Array.getElem?_eq_getElem l2
    have r1 : VR ι x xs'[i] := hx 0 x _ rfl e1
    have r2 : VR ι y ys'[i] := hy 0 y _ rfl e2
    have p1 : (part e xs' (i * 1)).run P w = .ok xs'[i] w := by
      simp only [part, Sem.run_bind, hk.run_isAgg w, Result.andThen_ok, hag, Bool.false_eq_true, if_false, Nat.mul_one, e1, Sem.run_pure]
    have p2 : (part e ys' (i * 1)).run P w = .ok ys'[i] w := by
      simp only [part, Sem.run_bind, hk.run_isAgg w, Result.andThen_ok, hag, Bool.false_eq_true, if_false, Nat.mul_one, e2, Sem.run_pure]
    simp only [eqLs] at h
    simp only [List.range'_succ]
    split at h
    · rename_i hq
      have h3 := aEq0_ok (P := P) (w := w) hk.und r1 r2 hq d
      simp only [Op.eqItems, Sem.run_bind, p1, Result.andThen_ok, p2, h3, Bool.not_true, Bool.false_eq_true, if_false]
      exact eqLs_ok hE hei hag n (i + 1) xs ys xs' ys' (fun k v v' a c => hx (k + 1) v v' (by simpa using a) (by rw [← c]; congr 1; omega)) (fun k v v' a c => hy (k + 1) v v' (by simpa using a) (by rw [← c]; congr 1; omega))
        (by omega) (by omega) b h
    · rename_i hq
      have h3 := aEq0_ok (P := P) (w := w) hk.und r1 r2 hq d
      simp only [Option.some.injEq] at h; subst h
      simp only [Op.eqItems, Sem.run_bind, p1, Result.andThen_ok, p2, h3, Bool.not_false, if_true, Sem.run_pure]
    · simp at h

theorem aEq_ok (hE : E.Ok P) : ∀ (n d : Nat), n < d → ∀ (t : TypeId) (x y : AV) (x' y' : Value) (b : Bool), VR ι x x' → VR ι y y' → aEq E n t x y = some b →
    (Op.equalIn d t x' y').run P w = .ok b w
  | 0, _, _, t, x, y, x', y', b, hx, hy, h => by simp [aEq] at h
  | n + 1, 0, hnd, t, x, y, x', y', b, hx, hy, h => by omega
  | n + 1, d + 1, hnd, t, x, y, x', y', b, hx, hy, h => by
    simp only [aEq] at h
    split at h
    · simp at h
    · rename_i ti hti
      have hk := mkTI_ok (hE.ty _ _ hti)
      split at h
      · rename_i xs
        split at h
        · rename_i ys
          cases hx with
          | agg _ xs' sx cx vx =>
          cases hy with
          | agg _ ys' sy cy vy =>
            split at h
            · rename_i fs hd
              cases hh : ti.held
              · simp only [hh, cond_false] at h
                have hfo : P.fieldsOf t = fs := by simp only [Program.fieldsOf, hk.und, hd]
                rw [run_equalIn_struct w d t xs' ys' (by rw [hk.und, hd, hfo]) (by rw [hk.held, hh]), hfo]
                rw [hk.fl, hd] at h
                exact eqFs_ok hE ⟨sx, vx⟩ ⟨sy, vy⟩ cx cy (aEq_ok hE n d (by omega)) _ b h
              · simp only [hh, cond_true, reduceCtorEq] at h
            · rename_i m e hd
              split at h
              · rename_i ei hei
                have hke := mkTI_ok (hE.ty _ _ hei)
                obtain ⟨i, hi, hsz, _⟩ := hke.inf
                have hcs : P.cellsOf e = ei.size := by simp [Program.cellsOf, hi, hsz]
                rw [run_equalIn_array w d xs' ys' (by rw [hk.und, hd]) hi, hcs]
                rw [List.range_eq_range']
                cases hag : isAggD ei.desc
                · simp only [hag, cond_false] at h
                  cases h1 : Nat.beq ei.size 1
                  · simp only [h1, cond_false, reduceCtorEq] at h
                  · simp only [h1, cond_true] at h
                    have h1' := Nat.eq_of_beq_eq_true h1
                    rw [h1']
                    cases d with
                    | zero => omega
                    | succ d => exact eqLs_ok hE hei hag m 0 xs ys xs' ys' (fun k v v' a c => vx k v v' a (by simpa using c)) (fun k v v' a c => vy k v v' a (by simpa using c)) (by omega) (by omega) b h
                · simp only [hag, cond_true] at h
                  exact eqIs_ok hE ⟨sx, vx⟩ ⟨sy, vy⟩ cx cy (aEq_ok hE n d (by omega)) m 0 b h
              · simp at h
            · simp at h
        · simp at h
      · exact aEq0_ok hk.und hx hy h d
end
end
end Go.Ax
