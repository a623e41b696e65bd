/-
  OWN WORK, TOLD ONCE FOR ALL TEXTS YtmjmpmmonelmmaaAxA TO YtmjmpmmonelmmaaAxU: an abstract machine for the program's text that the kernel can run, and the proof that it is sound: what it answers is what the program answers. No condition.
-/
import Derived.Test.YtmjmpmmonelmmaaAxP
import Derived.OrdersIn
namespace Go.Ax
noncomputable section
open Go.RowKit

/-! ### What an operation reads -/
def tmpsOf : List Operand → List Tmp
  | [] => []
  | .tmp t :: xs => t :: tmpsOf xs
  | _ :: xs => tmpsOf xs

def guardTmp (ops : List Oper) (o : Oper) : List Tmp :=
  match o.guard with
  | none => []
  | some (j, _) => match ops[j]? with | some oj => (match oj.dst with | some d => [d] | none => []) | none => []

def looks (ops : List Oper) (o : Oper) : List Tmp := tmpsOf o.op.operands.toList ++ guardTmp ops o

def AgreeOn (l : List Tmp) (fr fr' : AFr) : Prop := ∀ t, t ∈ l → (fr.m.get t).getD undefA = (fr'.m.get t).getD undefA

theorem mem_tmpsOf : ∀ {l : List Operand} {t : Tmp}, .tmp t ∈ l → t ∈ tmpsOf l
  | .tmp u :: l, t, h => by
    rcases List.mem_cons.1 h with h | h
    · cases h; exact List.mem_cons_self
    · exact List.mem_cons_of_mem _ (mem_tmpsOf h)
  | .const _ :: l, t, h => by
    rcases List.mem_cons.1 h with h | h
    · cases h
    · exact mem_tmpsOf (l := l) h
  | .global _ :: l, t, h => by
    rcases List.mem_cons.1 h with h | h
    · cases h
    · exact mem_tmpsOf (l := l) h
  | .func _ :: l, t, h => by
    rcases List.mem_cons.1 h with h | h
    · cases h
    · exact mem_tmpsOf (l := l) h

section
variable {E : Env} {call round : CallT} {ops : List Oper} {o : Oper} {fr fr' : AFr} {st : ASt}

theorem evA_congr {l : List Operand} (h : AgreeOn (tmpsOf l) fr fr') {x : Operand} (hx : x ∈ l) : evA fr x = evA fr' x := by
  cases x with
  | tmp t => simp only [evA]; rw [h t (mem_tmpsOf hx)]
  | _ => rfl

theorem evL_congr {l : List Operand} (h : AgreeOn (tmpsOf l) fr fr') : ∀ (xs : List Operand), (∀ x, x ∈ xs → x ∈ l) → evL fr xs = evL fr' xs
  | [], _ => rfl
  | x :: xs, hx => by
    simp only [evL, evA_congr h (hx x List.mem_cons_self), evL_congr h xs (fun y hy => hx y (List.mem_cons_of_mem _ hy))]

theorem evO_congr {l : List Operand} (h : AgreeOn (tmpsOf l) fr fr') : ∀ (x : Option Operand), (∀ y, x = some y → y ∈ l) → evO fr x = evO fr' x
  | none, _ => rfl
  | some x, hx => by simp only [evO, evA_congr h (hx x rfl)]

theorem evP_congr {l : List Operand} (h : AgreeOn (tmpsOf l) fr fr') : ∀ (xs : List (Nat × Operand)), (∀ x, x ∈ xs → x.2 ∈ l) → evP fr xs = evP fr' xs
  | [], _ => rfl
  | x :: xs, hx => by
    simp only [evP, evA_congr h (hx x List.mem_cons_self), evP_congr h xs (fun y hy => hx y (List.mem_cons_of_mem _ hy))]

theorem aOp_congr (h : AgreeOn (tmpsOf o.op.operands.toList) fr fr') : aOp E call round o fr st = aOp E call round o fr' st := by
  have hev : ∀ {x : Operand}, x ∈ o.op.operands.toList → evA fr x = evA fr' x := fun hx => evA_congr h hx
  obtain ⟨dst, op, type, pos, after, guard⟩ := o
  cases op with
  | call c =>
    have ha : evL fr c.args.toList = evL fr' c.args.toList := evL_congr h _ (fun x hx => by
      simp only [Op.operands, Call.operands]
      cases c.callee <;> simp_all)
    simp only [aOp, aCall]
    rw [ha]
    cases hc : c.callee with
    | value f =>
      have hf : evA fr f = evA fr' f := hev (by simp [Op.operands, Call.operands, hc])
      simp only [hf]
    | _ => rfl
  | build t ps =>
    have := evP_congr h ps.toList (fun x hx => by simp [Op.operands]; exact ⟨x.1, by simpa using hx⟩)
    simp only [aOp, this]
  | buildSlice t n ps =>
    have := evP_congr h ps.toList (fun x hx => by simp [Op.operands]; exact ⟨x.1, by simpa using hx⟩)
    simp only [aOp, this]
  | makeFunc f first caps =>
    have h2 := evL_congr h caps.toList (fun x hx => by simp [Op.operands]; right; simpa using hx)
    have h1 := evL_congr h first.toList (fun x hx => by simp [Op.operands]; left; simpa using hx)
    simp only [aOp]
    cases hf : first.toList with
    | nil => simp only [h2]
    | cons f0 fs0 => rw [hf] at h1; simp only [h1, h2]
  | slice t x lo hi mx =>
    have h1 : evA fr x = evA fr' x := hev (by simp [Op.operands])
    have h2 := evO_congr h lo (fun y hy => by simp [Op.operands, hy])
    have h3 := evO_congr h hi (fun y hy => by simp [Op.operands, hy])
    have h4 := evO_congr h mx (fun y hy => by simp [Op.operands, hy])
    simp only [aOp, h1, h2, h3, h4]
  | move x => simp only [aOp, hev (x := x) (by simp [Op.operands])]
  | assign x => simp only [aOp, hev (x := x) (by simp [Op.operands])]
  | pick c x y => simp only [aOp, hev (x := c) (by simp [Op.operands]), hev (x := x) (by simp [Op.operands]), hev (x := y) (by simp [Op.operands])]
  | box t x => simp only [aOp, hev (x := x) (by simp [Op.operands])]
  | load t x => simp only [aOp, hev (x := x) (by simp [Op.operands])]
  | store t x y => simp only [aOp, hev (x := x) (by simp [Op.operands]), hev (x := y) (by simp [Op.operands])]
  | nilCheck x => simp only [aOp, hev (x := x) (by simp [Op.operands])]
  | binOp op t x y yt => simp only [aOp, hev (x := x) (by simp [Op.operands]), hev (x := y) (by simp [Op.operands])]
  | unOp op t x => simp only [aOp, hev (x := x) (by simp [Op.operands])]
  | convert s d x => simp only [aOp, hev (x := x) (by simp [Op.operands])]
  | makeInterface t x => simp only [aOp, hev (x := x) (by simp [Op.operands])]
  | makeSlice t x y => simp only [aOp, hev (x := x) (by simp [Op.operands]), hev (x := y) (by simp [Op.operands])]
  | fieldAddr s x f => simp only [aOp, hev (x := x) (by simp [Op.operands])]
  | field t x f => simp only [aOp, hev (x := x) (by simp [Op.operands])]
  | indexAddr t x y => simp only [aOp, hev (x := x) (by simp [Op.operands]), hev (x := y) (by simp [Op.operands])]
  | index t x y => simp only [aOp, hev (x := x) (by simp [Op.operands]), hev (x := y) (by simp [Op.operands])]
  | typeAssert x xt t ok => simp only [aOp, hev (x := x) (by simp [Op.operands])]
  | extract x i => simp only [aOp, hev (x := x) (by simp [Op.operands])]
  | mapUpdate t x y z => simp only [aOp, hev (x := x) (by simp [Op.operands]), hev (x := y) (by simp [Op.operands]), hev (x := z) (by simp [Op.operands])]
  | insert t x y z => simp only [aOp, hev (x := x) (by simp [Op.operands]), hev (x := y) (by simp [Op.operands]), hev (x := z) (by simp [Op.operands])]
  | lookup t x y ok => simp only [aOp, hev (x := x) (by simp [Op.operands]), hev (x := y) (by simp [Op.operands])]
  | range t x => simp only [aOp, hev (x := x) (by simp [Op.operands])]
  | next x s => simp only [aOp, hev (x := x) (by simp [Op.operands])]
  | entry x => simp only [aOp, hev (x := x) (by simp [Op.operands])]
  | _ => rfl

theorem stepV_congr (h : AgreeOn (looks ops o) fr fr') : stepV E call round ops o fr st = stepV E call round ops o fr' st := by
  have h1 : AgreeOn (tmpsOf o.op.operands.toList) fr fr' := fun t ht => h t (List.mem_append_left _ ht)
  have h2 : wantedA ops fr o = wantedA ops fr' o := by
    simp only [wantedA]
    cases hg : o.guard with
    | none => rfl
    | some gw =>
      obtain ⟨j, want⟩ := gw
      simp only
      cases hj : ops[j]? with
      | none => rfl
      | some oj =>
        simp only
        cases hd : oj.dst with
        | none => rfl
        | some d =>
          simp only
          rw [h d (List.mem_append_right _ (by simp [guardTmp, hg, hj, hd]))]
  have h3 : guardAny ops fr o = guardAny ops fr' o := by
    simp only [guardAny]
    cases hg : o.guard with
    | none => rfl
    | some gw =>
      obtain ⟨j, want⟩ := gw
      simp only
      cases hj : ops[j]? with
      | none => rfl
      | some oj =>
        simp only
        cases hd : oj.dst with
        | none => rfl
        | some d =>
          simp only
          rw [h d (List.mem_append_right _ (by simp [guardTmp, hg, hj, hd]))]
  simp only [stepV, h2, h3, aOp_congr h1]

/-! ### Operations that leave the memory as it is -/
def isLight (E : Env) (o : Oper) : Bool :=
  match o.op with
  | .move _ | .assign _ | .pick .. | .build .. | .load .. | .nilCheck _ | .binOp .. | .unOp .. | .makeInterface .. | .makeFunc .. | .slice .. | .fieldAddr .. | .field .. | .indexAddr .. | .index .. | .typeAssert .. | .extract .. | .lookup .. | .entry .. => true
  | .convert s d _ => match E.ty.get d with | some td => (match td.desc with | .int _ => true | .string => true | .slice _ => (match E.ty.get s with | some ts => (match ts.desc with | .slice _ => true | _ => false) | none => false) | _ => false) | none => false
  | .call c =>
    match c.callee with
    | .builtin b => match b with | .len | .cap | .min | .max => true | _ => false
    | .value f => match f with | .func g => (match E.ex.get g with | some _ => true | none => false) | _ => false
    | _ => false
  | _ => false

theorem still_st {x : Option AV} {r : AV × ASt} (h : still st x = some r) : r.2 = st := by
  cases x with
  | none => simp [still] at h
  | some y => simp only [still, Option.some.injEq] at h; subst h; rfl

theorem aLoad_st {t : TypeId} {a : AV} {r : AV × ASt} (h : aLoad E t a st = some r) : r.2 = st := by
  simp only [aLoad] at h
  split at h
  · split at h
    · split at h
      · rename_i ti _
        cases hb : isAggD ti.desc
        · rw [hb] at h
          simp only [cond_false] at h
          split at h
          · simp only [Option.some.injEq] at h; subst h; rfl
          · simp at h
        · rw [hb] at h
          simp only [cond_true] at h
          split at h
          · simp only [Option.some.injEq] at h; subst h; rfl
          · simp at h
      · simp at h
    · simp at h
  · split at h
    · split at h
      · rename_i ti _
        cases hb : isAggD ti.desc
        · rw [hb] at h
          simp only [cond_false] at h
          split at h
          · simp only [Option.some.injEq] at h; subst h; rfl
          · simp at h
        · rw [hb] at h
          simp only [cond_true] at h
          split at h
          · simp only [Option.some.injEq] at h; subst h; rfl
          · simp at h
      · simp at h
    · simp at h
  · simp at h

theorem light_st {r : AV × ASt} (hl : isLight E o = true) (h : aOp E call round o fr st = some r) : r.2 = st := by
  obtain ⟨dst, op, type, pos, after, guard⟩ := o
  have hst : ∀ {x : Option AV}, still st x = some r → r.2 = st := fun h => still_st h
  cases op with
  | load t x => 
    simp only [aOp] at h
    split at h
    · exact aLoad_st h
    · simp at h
  | convert s d x =>
    simp only [isLight] at hl
    simp only [aOp] at h
    split at h
    · rename_i v _
      simp only [aConvert] at h
      split at h
      · simp at h
      rename_i td htd
      rw [htd] at hl
      simp only at hl
      split at hl
      · rename_i k hk
        rw [hk] at h
        split at h
        · simp at h
        simp only at h
        split at h
        · simp only [Option.some.injEq] at h; subst h; rfl
        · simp at h
      · rename_i hk
        rw [hk] at h
        split at h
        · simp at h
        simp only at h
        repeat' split at h
        all_goals first | (simp only [Option.some.injEq] at h; subst h; rfl) | simp at h
      · rename_i e hk
        rw [hk] at h
        split at hl
        · rename_i ts hts
          split at hl
          · rename_i e' hk'
            simp only [hts, hk'] at h
            split at h
            · simp at h
            · cases hb : Nat.beq s d
              · rw [hb] at h; simp at h
              · rw [hb] at h
                simp only [cond_true] at h
                repeat' split at h
                all_goals first | (simp at h; done) | (simp only [Option.some.injEq] at h; subst h; rfl)
            · simp at h
          · simp at hl
        · simp at hl
      · simp at hl
    · simp at h
  | call c =>
    simp only [isLight] at hl
    simp only [aOp, aCall] at h
    split at h
    · simp at h
    rename_i args _
    split at h
    · rename_i b hb
      rw [hb] at hl
      have old : (match b with | .len | .cap | .min | .max => true | _ => false) = true → ∀ ts l, aBuiltin E b ts l st = some r → r.2 = st := by
        intro hl ts l h
        simp only [aBuiltin] at h
        cases b <;> simp only [Bool.false_eq_true] at hl <;> simp only at h <;> (split at h) <;> first | (simp at h; done) | skip
        all_goals (split at h) <;> first | (simp only [Option.some.injEq] at h; subst h; rfl) | (simp at h; done)
      cases b <;> simp only [Bool.false_eq_true] at hl
      case len =>
        simp only [aBuiltinM] at h
        split at h
        · split at h
          · split at h
            · split at h
              · simp only [Option.some.injEq] at h; subst h; rfl
              · simp at h
            · exact old rfl _ _ h
          · exact old rfl _ _ h
        · exact old rfl _ _ h
      all_goals exact old rfl c.argTypes.toList args h
    · rename_i f hf
      rw [hf] at hl
      cases f with
      | func g =>
        simp only at hl
        simp only [evA] at h
        cases hg : E.ex.get g with
        | none => simp [hg] at hl
        | some x => simp only [hg] at h; exact still_st h
      | _ => simp at hl
    · simp at h
  | makeFunc f first caps =>
    simp only [aOp] at h
    split at h
    · split at h
      · split at h
        · simp only [Option.some.injEq] at h; subst h; rfl
        · simp at h
      · split at h
        · split at h
          · simp only [Option.some.injEq] at h; subst h; rfl
          · simp at h
        · simp at h
    · simp at h
  | lookup t x y ok => simp only [aOp] at h; split at h <;> first | (split at h <;> first | exact hst h | simp at h) | simp at h
  | entry x => simp only [aOp] at h; split at h <;> first | exact hst h | simp at h
  | move x => simp only [aOp] at h; exact hst h
  | assign x => simp only [aOp] at h; exact hst h
  | pick c x y =>
    simp only [aOp] at h
    split at h
    · rename_i t _; cases t <;> exact hst h
    · simp at h
  | build t ps => simp only [aOp] at h; split at h <;> first | exact hst h | simp at h
  | nilCheck x => simp only [aOp] at h; split at h <;> first | exact hst h | simp at h
  | binOp op t x y yt => simp only [aOp] at h; split at h <;> first | (split at h <;> first | exact hst h | simp at h) | simp at h
  | unOp op t x => simp only [aOp] at h; split at h <;> first | exact hst h | simp at h
  | makeInterface t x => simp only [aOp] at h; split at h <;> first | exact hst h | simp at h
  | fieldAddr s x f => simp only [aOp] at h; split at h <;> first | exact hst h | simp at h
  | field s x f => simp only [aOp] at h; split at h <;> first | exact hst h | simp at h
  | typeAssert s x f ok => simp only [aOp] at h; split at h <;> first | exact hst h | simp at h
  | extract s x => simp only [aOp] at h; split at h <;> first | exact hst h | simp at h
  | indexAddr t x y => simp only [aOp] at h; split at h <;> first | (split at h <;> first | exact hst h | simp at h) | simp at h
  | index t x y => simp only [aOp] at h; split at h <;> first | (split at h <;> first | exact hst h | simp at h) | simp at h
  | slice t x lo hi mx =>
    simp only [aOp] at h
    split at h
    · split at h
      · split at h
        · split at h
          · exact hst h
          · simp at h
        · simp at h
      · simp at h
    · simp at h
  | _ => simp [isLight] at hl

theorem lightV_st {r : AV × ASt} (hl : isLight E o = true) (h : stepV E call round ops o fr st = some r) : r.2 = st := by
  simp only [stepV] at h
  cases hg : guardAny ops fr o
  rotate_left
  · simp [hg] at h
  simp only [hg, cond_false] at h
  cases hw : wantedA ops fr o
  · simp only [hw, cond_false, Option.some.injEq] at h; subst h; rfl
  · simp only [hw, cond_true] at h; exact light_st hl h
end
end
end Go.Ax
