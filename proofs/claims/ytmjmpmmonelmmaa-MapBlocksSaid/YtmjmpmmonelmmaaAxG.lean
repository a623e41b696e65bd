/-
  OWN WORK, TOLD ONCE FOR ALL TEXTS YtmjmpmmonelmmaaAxA TO YtmjmpmmonelmmaaAxU: an abstract machine for the program's text that the kernel can run, and the proof that it is sound: what it answers is what the program answers. No condition.
-/
import Derived.Test.YtmjmpmmonelmmaaAxF
namespace Go.Ax
noncomputable section
open Go.RowKit

def isConstO : Operand → Bool
  | .const _ => true
  | _ => false

/-- the guard of == and != -/
def aGuard (E : Env) (t : TypeId) (x y : Operand) (a b : AV) : Bool :=
  match a with
  | .any => false
  | .nilIface =>
    match b with
    | .nilIface => bif isConstO x then true else isConstO y
    | .any => false
    | _ => true
  | .agg _ =>
    match b with
    | .agg _ =>
      match E.ty.get t with
      | some ti => bif ti.guard then false else true
      | none => false
    | .any => false
    | _ => true
  | _ => match b with | .any => false | _ => true

def aShift (op : BinOp) (k : IntKind) (a : Int) (b : Int) : Option Int :=
  match b with
  | .ofNat b =>
    let n := bif Nat.ble b k.bits then b else k.bits
    match op with
    | .shl => some (shlF k a n)
    | .shr => some (shrF a n)
    | _ => none
  | .negSucc _ => none

def aInt (op : BinOp) (k : IntKind) (a b : Int) : Option AV :=
  match op with
  | .add => some (.int k (wrapF k (a + b)))
  | .sub => some (.int k (wrapF k (a - b)))
  | .mul => some (.int k (wrapF k (a * b)))
  | .quo => bif eqF b 0 then none else some (.int k (wrapF k (a.tdiv b)))
  | .rem => bif eqF b 0 then none else some (.int k (a.tmod b))
  | .eql => some (.bool (eqF a b))
  | .neq => some (.bool (!eqF a b))
  | .lss => some (.bool (ltF a b))
  | .leq => some (.bool (!ltF b a))
  | .gtr => some (.bool (ltF b a))
  | .geq => some (.bool (!ltF a b))
  | .and | .or | .xor | .andNot => match bitsF op k a b with | some r => some (.int k r) | none => none
  | _ => none

def lLess : List Nat → List Nat → Bool
  | _, [] => false
  | [], _ :: _ => true
  | a :: x, b :: y => bif Nat.blt a b then true else bif Nat.beq a b then lLess x y else false

def aStr (op : BinOp) (a b : List Nat) : Option AV :=
  match op with
  | .eql => some (.bool (lEq a b))
  | .neq => some (.bool (!lEq a b))
  | .lss => some (.bool (lLess a b))
  | .geq => some (.bool (!lLess a b))
  | .add => bif Nat.blt (a.length + b.length) 4294967296 then some (.str (a ++ b)) else none
  | _ => none

def aBin (E : Env) (op : BinOp) (t : TypeId) (x y : Operand) (a b : AV) : Option AV :=
  match a with
  | .int k n =>
    match b with
    | .int k' m =>
      match op with
      | .shl | .shr => match aShift op k n m with | some r => some (.int k r) | none => none
      | _ => bif kEq k k' then aInt op k n m else none
    | _ => none
  | .str s =>
    match b with
    | .str r => aStr op s r
    | _ => none
  | _ =>
    bif aGuard E t x y a b then
      match op with
      | .eql => match aEq E 12 t a b with | some r => some (.bool r) | none => none
      | .neq => match aEq E 12 t a b with | some r => some (.bool (!r)) | none => none
      | _ => none
    else none

section
variable {P : Program} {E : Env} {ι : Ren} {w : World}

theorem isConstO_iff (x : Operand) : isConstO x = (match x with | .const _ => true | _ => false) := by cases x <;> rfl

theorem aGuard_ok (hE : E.Ok P) {op : BinOp} {t : TypeId} {x y : Operand} {a b : AV} {a' b' : Value} (ha : VR ι a a') (hb : VR ι b b') (h : aGuard E t x y a b = true) :
    (eqGuard op t x y a' b').run P w = .ok () w := by
  have key : (∀ (h1 : a' = .nilIface), b' = .nilIface → (isConstO x || isConstO y) = true) → (∀ xs ys, a' = .agg xs → b' = .agg ys → P.eqGuardType P.depth t = false) →
      (eqGuard op t x y a' b').run P w = .ok () w := by
    intro h1 h2
    have body : ∀ o, o = BinOp.eql ∨ o = .neq → (eqGuard o t x y a' b').run P w = .ok () w := by
      intro o ho
      by_cases hn : a' = .nilIface ∧ b' = .nilIface
      · obtain ⟨e1, e2⟩ := hn
        have := h1 e1 e2
        subst e1; subst e2
        rcases ho with rfl | rfl <;> cases x <;> cases y <;> first | (simp [isConstO] at this; done) | rfl
      · by_cases ha : ∃ xs ys, a' = .agg xs ∧ b' = .agg ys
        · obtain ⟨xs, ys, e1, e2⟩ := ha
          have := h2 xs ys e1 e2
          subst e1; subst e2
          exact run_eqGuard_agg w o t x y xs ys this
        · rcases ho with rfl | rfl <;> cases a' <;> first
            | rfl
            | (cases b' <;> first | rfl | exact absurd ⟨rfl, rfl⟩ hn | exact absurd ⟨_, _, rfl, rfl⟩ ha)
    cases op <;> first | rfl | exact body _ (.inl rfl) | exact body _ (.inr rfl)
  cases ha with
  | nilIface =>
    cases hb with
    | nilIface =>
      refine key (fun _ _ => ?_) (fun xs ys h1 => by simp at h1)
      have h' : (bif isConstO x then true else isConstO y) = true := h
      cases hx : isConstO x
      · rw [hx] at h'; simpa using h'
      · rfl
    | any v => simp [aGuard] at h
    | _ => exact key (fun _ h1 => by simp at h1) (fun xs ys h1 => by simp at h1)
  | agg cs cs' hs hc hv =>
    cases hb with
    | agg ds ds' hs2 hc2 hv2 =>
      refine key (fun h1 => by simp at h1) (fun xs ys h1 h2 => ?_)
      have h' : (match E.ty.get t with | some ti => (bif ti.guard then false else true) | none => false) = true := h
      clear h
      revert h'
      intro h
      split at h
      · rename_i ti hti
        rw [(mkTI_ok (hE.ty _ _ hti)).guard]
        cases hg : ti.guard
        · rfl
        · simp [hg] at h
      · simp at h
    | any v => simp [aGuard] at h
    | _ => exact key (fun h1 => by simp at h1) (fun xs ys h1 h2 => by simp at h2)
  | any v => simp [aGuard] at h
  | _ => exact key (fun h1 => by simp at h1) (fun xs ys h1 => by simp at h1)

theorem aShift_ok {op : BinOp} {k yk : IntKind} {a b r : Int} (h : aShift op k a b = some r) : (Op.shift op k a yk b).run P w = .ok (.int k r) w := by
  unfold aShift at h
  split at h
  · rename_i b'
    have hb : ¬ (Int.ofNat b' < 0) := by simp only [Int.ofNat_eq_natCast]; omega
    have hn : (bif Nat.ble b' k.bits then b' else k.bits) = min (Int.ofNat b').toNat k.bits := by
      show (bif Nat.ble b' k.bits then b' else k.bits) = min b' k.bits
      cases hh : Nat.ble b' k.bits
      · have : ¬ b' ≤ k.bits := by intro hle; rw [← Nat.ble_eq] at hle; rw [hle] at hh; simp at hh
        simp only [cond_false]; omega
      · have : b' ≤ k.bits := by rw [← Nat.ble_eq]; exact hh
        simp only [cond_true]; omega
    simp only [hn] at h
    cases op <;> simp only [Option.some.injEq, reduceCtorEq] at h <;> subst h <;>
      simp only [Op.shift, hb, if_false, Sem.run_pure, shlF_eq, shrF_eq]
  · simp at h

theorem dle (a b : Int) : (!ltF b a) = decide (a ≤ b) := by
  rw [ltF_eq]
  by_cases h : b < a
  · have : ¬ a ≤ b := by omega
    simp [h, this]
  · have : a ≤ b := by omega
    simp [h, this]

theorem aInt_ok {op : BinOp} {t : TypeId} {k : IntKind} {a b : Int} {r : AV} (hsh : op ≠ .shl ∧ op ≠ .shr) (h : aInt op k a b = some r) :
    ∃ v, (binOp op t (.int k a) (.int k b)).run P w = .ok v w ∧ VR ι r v := by
  obtain ⟨hs1, hs2⟩ := hsh
  cases op <;> simp only [aInt, Option.some.injEq, reduceCtorEq] at h
  case quo =>
    cases hz : eqF b 0
    · simp only [hz, cond_false, Option.some.injEq] at h; subst h
      have hb : ¬ b = 0 := by rw [eqF_eq] at hz; simpa using hz
      exact ⟨.int k (k.wrap (a.tdiv b)), by simp only [binOp, ne_eq, not_true_eq_false, if_false, Op.intDiv, hb, Sem.run_pure], by rw [wrapF_eq]; exact .int _ _⟩
    · simp only [hz, cond_true, reduceCtorEq] at h
  case rem =>
    cases hz : eqF b 0
    · simp only [hz, cond_false, Option.some.injEq] at h; subst h
      have hb : ¬ b = 0 := by rw [eqF_eq] at hz; simpa using hz
      exact ⟨.int k (a.tmod b), by simp only [binOp, ne_eq, not_true_eq_false, if_false, Op.intDiv, hb, Sem.run_pure], .int _ _⟩
    · simp only [hz, cond_true, reduceCtorEq] at h
  case add => subst h; exact ⟨.int k (k.wrap (a + b)), by simp only [binOp, ne_eq, not_true_eq_false, if_false, Op.intArith, Sem.run_pure], by rw [wrapF_eq]; exact .int _ _⟩
  case sub => subst h; exact ⟨.int k (k.wrap (a - b)), by simp only [binOp, ne_eq, not_true_eq_false, if_false, Op.intArith, Sem.run_pure], by rw [wrapF_eq]; exact .int _ _⟩
  case mul => subst h; exact ⟨.int k (k.wrap (a * b)), by simp only [binOp, ne_eq, not_true_eq_false, if_false, Op.intArith, Sem.run_pure], by rw [wrapF_eq]; exact .int _ _⟩
  case eql => subst h; exact ⟨.bool (a == b), by simp only [binOp, ne_eq, not_true_eq_false, if_false, Op.intCmp, Sem.run_pure], by rw [eqF_eq]; exact .bool _⟩
  case neq => subst h; exact ⟨.bool (a != b), by simp only [binOp, ne_eq, not_true_eq_false, if_false, Op.intCmp, Sem.run_pure], by rw [eqF_eq]; exact .bool _⟩
  case lss => subst h; exact ⟨.bool (decide (a < b)), by simp only [binOp, ne_eq, not_true_eq_false, if_false, Op.intCmp, Sem.run_pure], by rw [ltF_eq]; exact .bool _⟩
  case leq => subst h; exact ⟨.bool (decide (a ≤ b)), by simp only [binOp, ne_eq, not_true_eq_false, if_false, Op.intCmp, Sem.run_pure], by rw [dle]; exact .bool _⟩
  case gtr => subst h; exact ⟨.bool (decide (a > b)), by simp only [binOp, ne_eq, not_true_eq_false, if_false, Op.intCmp, Sem.run_pure], by rw [ltF_eq]; exact .bool _⟩
  case geq => subst h; exact ⟨.bool (decide (a ≥ b)), by simp only [binOp, ne_eq, not_true_eq_false, if_false, Op.intCmp, Sem.run_pure], by rw [dle]; exact .bool _⟩
  all_goals
    split at h
    · rename_i q hq
      simp only [Option.some.injEq] at h; subst h
      exact ⟨.int k q, by simp only [binOp, ne_eq, not_true_eq_false, if_false]; exact bitsF_ok hq w, .int _ _⟩
    · simp at h

theorem lLess_eq : ∀ (a b : List UInt8), lLess (a.map UInt8.toNat) (b.map UInt8.toNat) = Op.bytesLess a b
  | [], [] => rfl
  | _ :: _, [] => rfl
  | [], _ :: _ => rfl
  | a :: as, b :: bs => by
    simp only [List.map_cons, lLess, Op.bytesLess, blt_dec, beq_dec, lLess_eq as bs]
    by_cases h : a < b
    · have h' : a.toNat < b.toNat := UInt8.lt_iff_toNat_lt.1 h
      simp [h, h']
    · have h' : ¬ a.toNat < b.toNat := fun e => h (UInt8.lt_iff_toNat_lt.2 e)
      by_cases he : a = b
      · subst he; simp
      · have he' : ¬ a.toNat = b.toNat := fun e => he (UInt8.toNat_inj.1 e)
        simp [h, h', he, he']

theorem aStr_ok {op : BinOp} {t : TypeId} {a b : List Nat} {s q : ByteArray} {r : AV} (ha : VR ι (.str a) (.string s)) (hb : VR ι (.str b) (.string q)) (h : aStr op a b = some r) :
    ∃ v, (binOp op t (.string s) (.string q)).run P w = .ok v w ∧ VR ι r v := by
  have e := str_eq ha hb
  cases ha with
  | str _ _ ha =>
  cases hb with
  | str _ _ hb =>
    have l : Op.bytesLess s.toList q.toList = lLess a b := by rw [ByteArray.toList_eq, ByteArray.toList_eq, ← lLess_eq, ha, hb]
    cases op <;> simp only [aStr, Option.some.injEq, reduceCtorEq] at h
    case add =>
      cases hlen : Nat.blt (a.length + b.length) 4294967296
      · simp only [hlen, cond_false, reduceCtorEq] at h
      · simp only [hlen, cond_true, Option.some.injEq] at h; subst h
        have hl : a.length + b.length < 4294967296 := by rw [← Nat.blt_eq]; exact hlen
        have h1 : a.length = s.size := by rw [← ha]; simp
        have h2 : b.length = q.size := by rw [← hb]; simp
        have hmax : IntKind.i64.max = 9223372036854775807 := by decide
        have hle : ¬ (((s.size + q.size : Nat) : Int) > IntKind.i64.max) := by rw [hmax]; omega
        refine ⟨.string (s ++ q), by simp only [binOp, Op.stringOp, hle, if_false, Sem.run_pure], .str _ _ ?_⟩
        rw [← ha, ← hb]
        simp [ByteArray.data_append]
    all_goals
      subst h
      refine ⟨_, by simp only [binOp, Op.stringOp, Sem.run_pure, e, l]; rfl, ?_⟩
      exact .bool _

theorem aBin_ok (hE : E.Ok P) {op : BinOp} {t : TypeId} {x y : Operand} {a b r : AV} {a' b' : Value} (ha : VR ι a a') (hb : VR ι b b') (h : aBin E op t x y a b = some r) :
    ∃ v, (do eqGuard op t x y a' b'; binOp op t a' b' : Sem Value).run P w = .ok v w ∧ VR ι r v := by
  have gen : (∀ op', op' ≠ BinOp.eql → op' ≠ .neq → True) → (bif aGuard E t x y a b then
      match op with
      | .eql => match aEq E 12 t a b with | some r => some (.bool r) | none => none
      | .neq => match aEq E 12 t a b with | some r => some (.bool (!r)) | none => none
      | _ => none
    else none) = some r → (∀ o, o = BinOp.eql ∨ o = .neq → binOp o t a' b' = (do let q ← Op.equal t a' b'; pure (.bool (if o = .eql then q else !q)))) →
      ∃ v, (do eqGuard op t x y a' b'; binOp op t a' b' : Sem Value).run P w = .ok v w ∧ VR ι r v := by
    intro _ h hbin
    cases hg : aGuard E t x y a b
    · simp only [hg, cond_false, reduceCtorEq] at h
    · simp only [hg, cond_true] at h
      have g := aGuard_ok (P := P) (w := w) (op := op) hE ha hb hg
      have fin : ∀ q, aEq E 12 t a b = some q → (Op.equal t a' b').run P w = .ok q w := fun q hq =>
        aEq_ok hE 12 10000 (by omega) t a b a' b' q ha hb hq
      cases op <;> simp only [reduceCtorEq] at h
      case eql =>
        split at h
        · rename_i q hq
          simp only [Option.some.injEq] at h; subst h
          exact ⟨.bool q, by simp only [Sem.run_bind, g, Result.andThen_ok, hbin .eql (.inl rfl), fin q hq, if_true, Sem.run_pure], .bool _⟩
        · simp at h
      case neq =>
        split at h
        · rename_i q hq
          simp only [Option.some.injEq] at h; subst h
          exact ⟨.bool (!q), by simp only [Sem.run_bind, g, Result.andThen_ok, hbin .neq (.inr rfl), fin q hq, reduceCtorEq, if_false, Sem.run_pure], .bool _⟩
        · simp at h
  cases ha with
  | int k n =>
    simp only [aBin] at h
    split at h
    · rename_i k' m
      cases hb
      have g : (eqGuard op t x y (.int k n) (.int k' m)).run P w = .ok () w := aGuard_ok (ι := ι) hE (.int k n) (.int k' m) rfl
      have sh : ∀ {o : BinOp}, (o = .shl ∨ o = .shr) → op = o → (match aShift op k n m with | some r => some (AV.int k r) | none => none) = some r →
          ∃ v, (do eqGuard op t x y (.int k n) (.int k' m); binOp op t (.int k n) (.int k' m) : Sem Value).run P w = .ok v w ∧ VR ι r v := by
        intro o ho e h
        split at h
        · rename_i q hq
          simp only [Option.some.injEq] at h; subst h
          refine ⟨.int k q, ?_, .int _ _⟩
          simp only [Sem.run_bind, g, Result.andThen_ok]
          rcases ho with ho | ho <;> subst ho <;> subst e <;> exact aShift_ok (yk := k') hq
        · simp at h
      by_cases h1 : op = .shl
      · subst h1; exact sh (.inl rfl) rfl h
      · by_cases h2 : op = .shr
        · subst h2; exact sh (.inr rfl) rfl h
        · have h' : (bif kEq k k' then aInt op k n m else none) = some r := by
            cases op <;> first | exact h | exact absurd rfl h1 | exact absurd rfl h2
          cases hk : kEq k k'
          · simp only [hk, cond_false, reduceCtorEq] at h'
          · simp only [hk, cond_true] at h'
            have := kEq_eq hk; subst this
            obtain ⟨v, h3, h4⟩ := aInt_ok (P := P) (w := w) (ι := ι) (t := t) ⟨h1, h2⟩ h'
            exact ⟨v, by simp only [Sem.run_bind, g, Result.andThen_ok, h3], h4⟩
    · simp at h
  | str l s hs =>
    simp only [aBin] at h
    split at h
    · rename_i l'
      cases hb with
      | str _ q hq =>
        have g : (eqGuard op t x y (.string s) (.string q)).run P w = .ok () w := aGuard_ok (ι := ι) hE (.str l s hs) (.str l' q hq) rfl
        obtain ⟨v, h3, h4⟩ := aStr_ok (P := P) (w := w) (t := t) (.str l s hs) (.str l' q hq) h
        exact ⟨v, by simp only [Sem.run_bind, g, Result.andThen_ok, h3], h4⟩
    · simp at h
  | any v => simp [aBin, aGuard] at h
  | _ =>
    refine gen (fun _ _ _ => trivial) h (fun o ho => ?_)
    rcases ho with rfl | rfl <;> simp [binOp]
end
end
end Go.Ax
