/-
  OWN WORK, TOLD ONCE FOR ALL TEXTS YtmjmpmmonelmmaaAxA TO YtmjmpmmonelmmaaAxU: an abstract machine for the program's text that the kernel can run, and the proof that it is sound: what it answers is what the program answers. No condition.
-/
import Derived.Test.YtmjmpmmonelmmaaAxY
namespace Go.Ax
noncomputable section
open Go.RowKit Go.Region

/-! ### Operations that do not look at the memory -/
def isPure (E : Env) (o : Oper) : Bool :=
  match o.op with
  | .move _ | .assign _ | .pick .. | .build .. | .nilCheck _ | .binOp .. | .unOp .. | .makeInterface .. | .makeFunc .. | .fieldAddr .. | .field .. | .indexAddr .. | .index .. | .typeAssert .. | .extract .. => true
  | .convert _ d _ => match E.ty.get d with | some td => (match td.desc with | .int _ => true | _ => false) | none => false
  | .call c =>
    match c.callee with
    | .value f => match f with | .func g => (match E.ex.get g with | some _ => true | none => false) | _ => false
    | _ => false
  | _ => false

theorem still_any {x : Option AV} {st st' : ASt} {r : AV × ASt} (h : still st x = some r) : still st' x = some (r.1, st') := by
  cases x with
  | none => simp [still] at h
  | some v => simp only [still, Option.some.injEq] at h; subst h; rfl

theorem pure_any {E : Env} {call round : CallT} {o : Oper} {fr : AFr} {st : ASt} {r : AV × ASt} (hp : isPure E o = true) (h : aOp E call round o fr st = some r) (st' : ASt) : aOp E call round o fr st' = some (r.1, st') := by
  obtain ⟨dst, op, type, pos, after, guard⟩ := o
  cases op <;> simp only [isPure, Bool.false_eq_true] at hp <;> simp only [aOp] at h ⊢
  case convert s d x =>
    split at h
    · rename_i v hv
      simp only [aConvert] at h ⊢
      split at h
      · simp at h
      rename_i td htd
      rw [htd] at hp
      simp only at hp
      split at hp
      · rename_i k hk
        rw [hk] at h
        split at h
        · simp at h
        rename_i ts hts
        simp only [hk] at h ⊢
        split at h
        · simp only [Option.some.injEq] at h; subst h; rfl
        · simp at h
      · simp at hp
    · simp at h
  case call c =>
    simp only [aCall] at h ⊢
    cases hl : evL fr c.args.toList with
    | none => rw [hl] at h; simp at h
    | some args =>
      simp only [hl] at h ⊢
      cases hc : c.callee with
      | value f =>
        simp only [hc] at h hp ⊢
        cases f with
        | func g =>
          simp only [evA] at h hp ⊢
          cases hx : E.ex.get g with
          | some x =>
            simp only [hx] at h ⊢
            exact still_any h
          | none => simp [hx] at hp
        | _ => simp at hp
      | _ => simp [hc] at hp
  case pick c x y =>
    split at h
    · rename_i t ht
      cases t
      · exact still_any h
      · exact still_any h
    · simp at h
  all_goals first
    | exact still_any h
    | skip
  all_goals
    repeat' split at h
    all_goals first
      | exact still_any h
      | (simp at h; done)
      | (simp only [Option.some.injEq] at h; subst h; simp_all)
      | (simp_all; exact still_any h)

theorem pureV_any {E : Env} {call round : CallT} {ops : List Oper} {o : Oper} {fr : AFr} {st : ASt} {r : AV × ASt} (hp : isPure E o = true) (h : stepV E call round ops o fr st = some r) (st' : ASt) :
    stepV E call round ops o fr st' = some (r.1, st') := by
  simp only [stepV] at h ⊢
  cases hg : guardAny ops fr o
  rotate_left
  · simp [hg] at h
  simp only [hg, cond_false] at h ⊢
  cases hw : wantedA ops fr o
  · simp only [hw, cond_false, Option.some.injEq] at h ⊢; subst h; rfl
  · simp only [hw, cond_true] at h ⊢; exact pure_any hp h st'

theorem wantedA_congr {ops : List Oper} {o : Oper} {fr fr' : AFr} (h : AgreeOn (looks ops o) fr fr') : wantedA ops fr o = wantedA ops fr' o := by
  simp only [wantedA]
  cases hg : o.guard with
  | none => rfl
  | some gw =>
    obtain ⟨j, want⟩ := gw
    simp only
    cases hj : ops[j]? with
    | none => rfl
    | some oj =>
      simp only
      cases hd : oj.dst with
      | none => rfl
      | some d =>
        simp only
        rw [h d (List.mem_append_right _ (by simp [guardTmp, hg, hj, hd]))]

theorem aFree_congr {E : Env} {o : Oper} {fr fr' : AFr} (h : AgreeOn (tmpsOf o.op.operands.toList) fr fr') : aFree E o fr = aFree E o fr' := by
  obtain ⟨dst, op, type, pos, after, guard⟩ := o
  cases op <;> simp only [aFree]
  case box t x => rw [evA_congr h (x := x) (by simp [Op.operands])]
  case buildSlice t n ps => rw [evP_congr h ps.toList (fun x hx => by simp only [Op.operands]; simpa using ⟨x.1, by simpa using hx⟩)]
  case makeSlice t l c => rw [evA_congr h (x := l) (by simp [Op.operands]), evA_congr h (x := c) (by simp [Op.operands])]
  case convert s d x => rw [evA_congr h (x := x) (by simp [Op.operands])]

theorem mkBox_own {v : AV} {x : AO × Sh} (h : mkBox v = some x) : x.1.own = true := by
  cases v <;> simp only [mkBox, Option.some.injEq, reduceCtorEq] at h <;> subst h <;> rfl

theorem aFree_own {E : Env} {o : Oper} {fr : AFr} {x : AO × Sh} (h : aFree E o fr = some x) : x.1.own = true := by
  unfold aFree at h
  split at h
  · repeat' split at h
    all_goals first | exact mkBox_own h | (simp at h; done)
  · split at h
    · exact mkBox_own h
    · simp at h
  · split at h
    · simp only [mkSlice] at h
      repeat' split at h
      all_goals first | (simp at h; done) | skip
      all_goals
        simp only [cond_eq_ite] at h
        repeat' split at h
        all_goals first | (simp at h; done) | (simp only [Option.some.injEq] at h; subst h; rfl)
    · simp at h
  · split at h
    · simp only [Option.some.injEq] at h; subst h; rfl
    · simp at h
  · split at h
    · split at h
      · simp only [mkMake] at h
        repeat' split at h
        all_goals first | (simp at h; done) | skip
        all_goals
          simp only [cond_eq_ite] at h
          repeat' split at h
          all_goals first | (simp at h; done) | (simp only [Option.some.injEq] at h; subst h; rfl)
      · simp at h
    · simp at h
  · split at h
    · simp only [mkConv] at h
      repeat' split at h
      all_goals first | (simp at h; done) | (simp only [Option.some.injEq] at h; subst h; rfl)
    · simp at h
  · simp at h

/-! ### Who stands before whom -/
def force {α : Type} (n : Nat) (k : Nat → α) : α := match n with | 0 => k 0 | m + 1 => k (m + 1)
theorem force_eq {α : Type} (n : Nat) (k : Nat → α) : force n k = k n := by cases n <;> rfl

def bit (m j : Nat) : Bool := Nat.testBit m j

def edgeBits (bs : List Nat) : List Edge → Nat
  | [] => 0
  | e :: es => bif binds .any e then Nat.lor (2 ^ e.on) (Nat.lor (bs.getD e.on 0) (edgeBits bs es)) else edgeBits bs es

def masksGo : List Oper → List Nat → List Nat
  | [], bs => bs
  | o :: os, bs => force (edgeBits bs o.after.toList) fun m => masksGo os (bs ++ [m])

def masks (ops : List Oper) : List Nat := masksGo ops []

theorem edgeBits_ok (bs : List Nat) (j : Nat) : ∀ es : List Edge, bit (edgeBits bs es) j = true → ∃ e, e ∈ es ∧ binds .any e = true ∧ (e.on = j ∨ bit (bs.getD e.on 0) j = true)
  | [], h => by simp [edgeBits, bit] at h
  | e :: es, h => by
    simp only [edgeBits] at h
    cases hb : binds .any e
    · simp only [hb, cond_false] at h
      obtain ⟨e', h1, h2⟩ := edgeBits_ok bs j es h
      exact ⟨e', List.mem_cons_of_mem _ h1, h2⟩
    · simp only [hb, cond_true, bit] at h
      have h : ((2 ^ e.on) ||| (bs.getD e.on 0 ||| edgeBits bs es)).testBit j = true := h
      simp only [Nat.testBit_or, Nat.testBit_two_pow, Bool.or_eq_true, decide_eq_true_eq] at h
      rcases h with h | h | h
      · exact ⟨e, List.mem_cons_self, hb, .inl h⟩
      · exact ⟨e, List.mem_cons_self, hb, .inr h⟩
      · obtain ⟨e', h1, h2⟩ := edgeBits_ok bs j es h
        exact ⟨e', List.mem_cons_of_mem _ h1, h2⟩

theorem masksGo_ok : ∀ (os : List Oper) (bs : List Nat), ∃ tail, masksGo os bs = bs ++ tail ∧ ∀ (i : Nat) o, os[i]? = some o → ∀ j, bit ((bs ++ tail).getD (bs.length + i) 0) j = true →
    ∃ e, e ∈ o.after ∧ binds .any e = true ∧ (e.on = j ∨ bit ((bs ++ tail).getD e.on 0) j = true)
  | [], bs => ⟨[], by simp [masksGo], fun i o h => by simp at h⟩
  | o :: os, bs => by
    simp only [masksGo, force_eq]
    obtain ⟨tail, h1, h2⟩ := masksGo_ok os (bs ++ [edgeBits bs o.after.toList])
    refine ⟨edgeBits bs o.after.toList :: tail, by rw [h1]; simp, fun i o' ho j hj => ?_⟩
    cases i with
    | zero =>
      simp only [List.getElem?_cons_zero, Option.some.injEq] at ho; subst ho
      have e1 : (bs ++ edgeBits bs o.after.toList :: tail).getD (bs.length + 0) 0 = edgeBits bs o.after.toList := by simp [List.getD_eq_getElem?_getD]
      rw [e1] at hj
      obtain ⟨e, g1, g2, g3⟩ := edgeBits_ok bs j _ hj
      refine ⟨e, by simpa using g1, g2, g3.imp id fun h => ?_⟩
      by_cases hlt : e.on < bs.length
      · simpa [List.getD_eq_getElem?_getD, List.getElem?_append, hlt] using h
      · simp [List.getD_eq_getElem?_getD, hlt, bit] at h
    | succ i =>
      have := h2 i o' (by simpa using ho) j (by
        have e1 : bs ++ [edgeBits bs o.after.toList] ++ tail = bs ++ edgeBits bs o.after.toList :: tail := by simp
        rw [e1]
        have e2 : (bs ++ [edgeBits bs o.after.toList]).length + i = bs.length + (i + 1) := by simp; omega
        rw [e2]; exact hj)
      simpa using this

theorem masks_ok {ops : Array Oper} {i j : Nat} {o : Oper} (ho : ops[i]? = some o) (h : bit ((masks ops.toList).getD i 0) j = true) :
    ∃ e, e ∈ o.after ∧ binds .any e = true ∧ (e.on = j ∨ bit ((masks ops.toList).getD e.on 0) j = true) := by
  obtain ⟨tail, h1, h2⟩ := masksGo_ok ops.toList []
  have e : masks ops.toList = [] ++ tail := h1
  rw [e] at h ⊢
  exact h2 i o (by simpa using ho) j (by simpa using h)

/-- what is done is closed under what stands before -/
def Closed (ops : Array Oper) (D : Nat → Bool) : Prop := ∀ i o, ops[i]? = some o → D i = true → ∀ e, e ∈ o.after → binds .any e = true → D e.on = true

def Down (ops : Array Oper) : Prop := ∀ i o, ops[i]? = some o → ∀ e, e ∈ o.after → binds .any e = true → e.on < i

theorem closed_bit {ops : Array Oper} {D : Nat → Bool} (hd : Down ops) (hc : Closed ops D) : ∀ (i : Nat) (o : Oper) (j : Nat), ops[i]? = some o → (∀ e, e ∈ o.after → binds .any e = true → D e.on = true) →
    bit ((masks ops.toList).getD i 0) j = true → D j = true := by
  intro i
  induction i using Nat.strongRecOn with
  | ind i ih =>
    intro o j ho he h
    obtain ⟨e, h1, h2, h3⟩ := masks_ok ho h
    rcases h3 with rfl | h3
    · exact he e h1 h2
    · have hlt := hd i o ho e h1 h2
      have hsz : i < ops.size := (Array.getElem?_eq_some_iff.1 ho).1
      have ho' : ops[e.on]? = some (ops[e.on]'(by omega)) := by rw [Array.getElem?_eq_getElem]
      exact ih e.on hlt _ j ho' (fun e' h1' h2' => hc e.on _ ho' (he e h1 h2) e' h1' h2') h3

/-! ### The check of the text -/
def mem (t : Tmp) : List Tmp → Bool
  | [] => false
  | u :: us => bif Nat.beq t u then true else mem t us

theorem mem_ok {t : Tmp} : ∀ {l : List Tmp}, t ∈ l → mem t l = true
  | u :: us, h => by
    simp only [mem]
    cases hb : Nat.beq t u
    · rcases List.mem_cons.1 h with rfl | h
      · simp at hb
      · simpa using mem_ok h
    · rfl

structure It where
  i : Nat
  m : Nat
  o : Oper

def items : List Oper → List Nat → Nat → List It
  | [], _, _ => []
  | o :: os, bs, i => ⟨i, bs.getD i 0, o⟩ :: items os bs (i + 1)

theorem items_get (bs : List Nat) : ∀ (os : List Oper) (k i : Nat) (o : Oper), os[i]? = some o → (⟨k + i, bs.getD (k + i) 0, o⟩ : It) ∈ items os bs k
  | [], k, i, o, h => by simp at h
  | o' :: os, k, i, o, h => by
    cases i with
    | zero => simp only [List.getElem?_cons_zero, Option.some.injEq] at h; subst h; exact List.mem_cons_self
    | succ i =>
      have := items_get bs os (k + 1) i o (by simpa using h)
      have e : k + 1 + i = k + (i + 1) := by omega
      rw [e] at this
      exact List.mem_cons_of_mem _ this

def ord (x y : It) : Bool := bif Nat.blt y.i x.i then bit x.m y.i else bif Nat.blt x.i y.i then bit y.m x.i else true

def touches (t : Tmp) (ls : List Tmp) (d : Option Tmp) : Bool := bif mem t ls then true else match d with | some u => Nat.beq t u | none => false

def okTmp (ops : List Oper) (its : List It) : Bool :=
  its.all fun x => let ls := looks ops x.o; its.all fun y => match y.o.dst with | some t => (bif touches t ls x.o.dst then ord x y else true) | none => true

def isCalm (E : Env) (o : Oper) : Bool := bif isLight E o then true else isFree E o
def okHeavy (E : Env) (its : List It) : Bool :=
  its.all fun x => bif isCalm E x.o then true else its.all fun y => bif isCalm E y.o then true else ord x y

def okDown (its : List It) : Bool := its.all fun x => x.o.after.toList.all fun e => bif binds .any e then Nat.blt e.on x.i else true

def okS (E : Env) (ops : List Oper) : Bool := let its := items ops (masks ops) 0; okDown its && (okTmp ops its && okHeavy E its)

theorem blt_false {a b : Nat} (h : Nat.blt a b = false) : ¬ a < b := fun hh => by
  have : Nat.blt a b = true := by rw [Nat.blt_eq]; exact hh
  rw [this] at h; cases h

theorem ord_ok {x y : It} (h : ord x y = true) : (y.i < x.i → bit x.m y.i = true) ∧ (x.i < y.i → bit y.m x.i = true) := by
  simp only [ord] at h
  cases h1 : Nat.blt y.i x.i
  · rw [h1] at h
    have h1' : ¬ y.i < x.i := blt_false h1
    simp only [cond_false] at h
    cases h2 : Nat.blt x.i y.i
    · have h2' : ¬ x.i < y.i := blt_false h2
      exact ⟨fun hh => absurd hh h1', fun hh => absurd hh h2'⟩
    · rw [h2] at h
      exact ⟨fun hh => absurd hh h1', fun _ => h⟩
  · rw [h1] at h
    have h1' : y.i < x.i := by simpa [Nat.blt_eq] using h1
    exact ⟨fun _ => h, fun hh => by omega⟩

structure TextOK (E : Env) (ops : Array Oper) : Prop where
  down : Down ops
  tmp : ∀ i j o p t, ops[i]? = some o → ops[j]? = some p → p.dst = some t → (t ∈ looks ops.toList o ∨ o.dst = some t) →
    (j < i → bit ((masks ops.toList).getD i 0) j = true) ∧ (i < j → bit ((masks ops.toList).getD j 0) i = true)
  heavy : ∀ i j o p, ops[i]? = some o → ops[j]? = some p → isCalm E o = false → isCalm E p = false →
    (j < i → bit ((masks ops.toList).getD i 0) j = true) ∧ (i < j → bit ((masks ops.toList).getD j 0) i = true)

theorem okS_ok {E : Env} {ops : Array Oper} (h : okS E ops.toList = true) : TextOK E ops := by
  simp only [okS, Bool.and_eq_true] at h
  obtain ⟨h1, h2, h3⟩ := h
  have hit : ∀ i o, ops[i]? = some o → (⟨i, (masks ops.toList).getD i 0, o⟩ : It) ∈ items ops.toList (masks ops.toList) 0 := fun i o ho => by
    have := items_get (masks ops.toList) ops.toList 0 i o (by simpa using ho)
    simpa using this
  refine ⟨fun i o ho e he hb => ?_, fun i j o p t hi hj hd ht => ?_, fun i j o p hi hj ho hp => ?_⟩
  · have := List.all_eq_true.1 h1 _ (hit i o ho)
    have := List.all_eq_true.1 this e (by simpa using he)
    rw [hb] at this
    simpa [Nat.blt_eq] using this
  · have := List.all_eq_true.1 h2 _ (hit i o hi)
    have := List.all_eq_true.1 this _ (hit j p hj)
    simp only [hd] at this
    have htc : touches t (looks ops.toList o) o.dst = true := by
      simp only [touches]
      rcases ht with ht | ht
      · rw [mem_ok ht]; rfl
      · cases mem t (looks ops.toList o)
        · simp [ht]
        · rfl
    rw [htc] at this
    exact ord_ok this
  · have := List.all_eq_true.1 h3 _ (hit i o hi)
    simp only [ho, cond_false] at this
    have := List.all_eq_true.1 this _ (hit j p hj)
    simp only [hp, cond_false] at this
    exact ord_ok this

/-! ### Objects that are made on the side, and the memory that an operation finds -/
def withF (nb : Nat) (q : Nat → Bool) : List (Nat × AO) → T AO → T AO
  | [], h => h
  | x :: fs, h => withF nb q fs (bif q x.1 then h.set D (nb + x.1) x.2 else h)

def putF (nb : Nat) (q : Nat → Bool) (fs : List (Nat × AO)) (S : ASt) : ASt := match fs with | [] => S | x :: fs => { h := withF nb q (x :: fs) S.h, next := S.next }

theorem putF_h (nb : Nat) (q : Nat → Bool) (fs : List (Nat × AO)) (S : ASt) : (putF nb q fs S).h = withF nb q fs S.h := by cases fs <;> rfl
theorem putF_next (nb : Nat) (q : Nat → Bool) (fs : List (Nat × AO)) (S : ASt) : (putF nb q fs S).next = S.next := by cases fs <;> rfl

def qm (m g : Nat) : Nat → Bool := fun p => bif bit g p then false else bit m p

def pick (nb : Nat) (q : Nat → Bool) : List (Nat × AO) → Nat → Option AO
  | [], _ => none
  | x :: fs, j => match pick nb q fs j with | some a => some a | none => if q x.1 = true ∧ nb + x.1 = j then some x.2 else none

theorem withF_get (nb : Nat) (q : Nat → Bool) : ∀ (fs : List (Nat × AO)) (h : T AO) (j : Nat), (withF nb q fs h).get j = match pick nb q fs j with | some a => some a | none => h.get j
  | [], h, j => rfl
  | x :: fs, h, j => by
    simp only [withF, withF_get nb q fs, pick]
    cases hp : pick nb q fs j with
    | some a => rfl
    | none =>
      simp only
      cases hq : q x.1
      · simp
      · simp only [cond_true, T.get_set]
        by_cases e : j = nb + x.1
        · subst e; simp
        · have : ¬ nb + x.1 = j := fun h => e h.symm
          simp [e, this]

theorem pick_some {nb : Nat} {q : Nat → Bool} : ∀ {fs : List (Nat × AO)} {j : Nat} {a : AO}, pick nb q fs j = some a → ∃ p, (p, a) ∈ fs ∧ q p = true ∧ nb + p = j
  | x :: fs, j, a, h => by
    simp only [pick] at h
    split at h
    · rename_i b hb
      cases h
      obtain ⟨p, h1, h2⟩ := pick_some hb
      exact ⟨p, List.mem_cons_of_mem _ h1, h2⟩
    · split at h
      · rename_i hc
        cases h
        exact ⟨x.1, List.mem_cons_self, hc⟩
      · simp at h

theorem pick_none {nb : Nat} {q : Nat → Bool} : ∀ {fs : List (Nat × AO)} {j : Nat}, pick nb q fs j = none → ∀ p a, (p, a) ∈ fs → q p = true → nb + p ≠ j
  | x :: fs, j, h, p, a, hm, hq => by
    simp only [pick] at h
    split at h
    · simp at h
    · rename_i hn
      split at h
      · simp at h
      · rename_i hc
        rcases List.mem_cons.1 hm with e | hm
        · subst e; exact fun he => hc ⟨hq, he⟩
        · exact pick_none hn p a hm hq

theorem pick_mem {nb : Nat} {q : Nat → Bool} {fs : List (Nat × AO)} (hf : ∀ p a b, (p, a) ∈ fs → (p, b) ∈ fs → a = b) {p : Nat} {a : AO} (hm : (p, a) ∈ fs) (hq : q p = true) : pick nb q fs (nb + p) = some a := by
  cases hp : pick nb q fs (nb + p) with
  | none => exact absurd rfl (pick_none hp p a hm hq)
  | some b =>
    obtain ⟨p', h1, h2, h3⟩ := pick_some hp
    have : p' = p := by omega
    subst this
    rw [hf _ _ _ h1 hm]

theorem pick_congr {nb : Nat} {q q' : Nat → Bool} : ∀ {fs : List (Nat × AO)} (j : Nat), (∀ p a, (p, a) ∈ fs → q p = q' p) → pick nb q fs j = pick nb q' fs j
  | [], _, _ => rfl
  | x :: fs, j, h => by
    simp only [pick]
    rw [pick_congr j (fun p a hm => h p a (List.mem_cons_of_mem _ hm)), h x.1 x.2 List.mem_cons_self]

theorem withF_append (nb : Nat) (q : Nat → Bool) : ∀ (xs ys : List (Nat × AO)) (h : T AO), (∀ p a, (p, a) ∈ ys → q p = false) → withF nb q (xs ++ ys) h = withF nb q xs h
  | [], [], h, _ => rfl
  | [], y :: ys, h, hy => by
    have h1 := hy y.1 y.2 List.mem_cons_self
    have := withF_append nb q [] ys h (fun p a hm => hy p a (List.mem_cons_of_mem _ hm))
    simp only [List.nil_append] at this ⊢
    simp only [withF, h1, cond_false, this]
  | x :: xs, ys, h, hy => by
    simp only [List.cons_append, withF, withF_append nb q xs ys _ hy]

theorem putF_append (nb : Nat) (q : Nat → Bool) (xs ys : List (Nat × AO)) (S : ASt) (h : ∀ p a, (p, a) ∈ ys → q p = false) : putF nb q (xs ++ ys) S = putF nb q xs S := by
  have h1 := putF_h nb q (xs ++ ys) S
  have h2 := putF_h nb q xs S
  have h3 := putF_next nb q (xs ++ ys) S
  have h4 := putF_next nb q xs S
  rw [withF_append nb q xs ys _ h, ← h2] at h1
  rw [← h4] at h3
  generalize putF nb q (xs ++ ys) S = A at *
  generalize putF nb q xs S = B at *
  cases A; cases B; simp only at h1 h3; subst h1; subst h3; rfl

/-! ### One run, kept -/
structure Rec where
  o : Oper
  fr : AFr
  v : AV
  hs : Option ASt
  ob : Option AO

def frees : List Rec → Nat → List (Nat × AO)
  | [], _ => []
  | r :: rs, i => match r.ob with | some a => (i, a) :: frees rs (i + 1) | none => frees rs (i + 1)

def run1 (E : Env) (f : Oper → AFr → ASt → Option (AV × ASt)) (wd : AFr → Oper → Bool) (nb : Nat) (bs : List Nat) : List Oper → Nat → List (Nat × AO) → Nat → AFr → ASt → Option (List Rec × AFr × Nat × ASt)
  | [], _, _, g, fr, st => some ([], fr, g, st)
  | o :: os, i, fs, g, fr, st =>
    bif isFree E o then
      bif wd fr o then
        match aFree E o fr with
        | none => none
        | some x =>
          match fr.put o.dst (x.2.val (nb + i)) with
          | none => none
          | some fr' =>
            match run1 E f wd nb bs os (i + 1) (fs ++ [(i, x.1)]) g fr' st with
            | none => none
            | some (rs, z) => some (⟨o, fr, x.2.val (nb + i), none, some x.1⟩ :: rs, z)
      else
        match fr.put o.dst undefA with
        | none => none
        | some fr' =>
          match run1 E f wd nb bs os (i + 1) fs g fr' st with
          | none => none
          | some (rs, z) => some (⟨o, fr, undefA, none, none⟩ :: rs, z)
    else
      match f o fr (putF nb (qm (bs.getD i 0) g) fs st) with
      | none => none
      | some (v, st') =>
        match fr.put o.dst v with
        | none => none
        | some fr' =>
          bif isLight E o then
            match run1 E f wd nb bs os (i + 1) fs g fr' st with
            | none => none
            | some (rs, z) => some (⟨o, fr, v, none, none⟩ :: rs, z)
          else bif Nat.beq (Nat.land g (bs.getD i 0)) g then
            match run1 E f wd nb bs os (i + 1) fs (bs.getD i 0) fr' st' with
            | none => none
            | some (rs, z) => some (⟨o, fr, v, some st', none⟩ :: rs, z)
          else none

structure Hv where
  i : Nat
  m : Nat
  s : ASt

def heavies : List Rec → List Nat → Nat → List Hv
  | [], _, _ => []
  | r :: rs, bs, i => match r.hs with | some s => ⟨i, bs.getD i 0, s⟩ :: heavies rs bs (i + 1) | none => heavies rs bs (i + 1)

def skipN (H : List Hv) (i m : Nat) : Bool := bif H.all (fun h => Bool.not (Nat.blt h.i i)) then true else H.any (fun h => bit m h.i)
def skipS (H : List Hv) (i m : Nat) (g : Hv) : Bool :=
  bif bit g.m i then true else
  bif H.any (fun h => bif Nat.blt g.i h.i then bit m h.i else false) then true else
  bif Nat.blt g.i i then H.all (fun h => Bool.not (bif Nat.blt g.i h.i then Nat.blt h.i i else false)) else false
def reEv (f : Oper → AFr → ASt → Option (AV × ASt)) (r : Rec) (s : ASt) : Bool := match f r.o r.fr s with | some (v, _) => avEq v r.v | none => false
def okRec (E : Env) (f : Oper → AFr → ASt → Option (AV × ASt)) (nb : Nat) (fs : List (Nat × AO)) (H : List Hv) (s0 : ASt) (i m : Nat) (r : Rec) : Bool :=
  match r.hs with
  | some _ => true
  | none =>
    bif isFree E r.o then true else
    bif isPure E r.o then true else
    bif (bif skipN H i m then true else reEv f r (putF nb (qm m 0) fs s0)) then H.all (fun g => bif skipS H i m g then true else reEv f r (putF nb (qm m g.m) fs g.s)) else false
def okRecs (E : Env) (f : Oper → AFr → ASt → Option (AV × ASt)) (nb : Nat) (fs : List (Nat × AO)) (H : List Hv) (s0 : ASt) (bs : List Nat) : List Rec → Nat → Bool
  | [], _ => true
  | r :: rs, i => bif okRec E f nb fs H s0 i (bs.getD i 0) r then okRecs E f nb fs H s0 bs rs (i + 1) else false

def isNone {α : Type} : Option α → Bool
  | none => true
  | some _ => false
/-- what is not behind a heavy operation has no place in the memory that it leaves -/
def okSlots (nb : Nat) (fs : List (Nat × AO)) (H : List Hv) : Bool := H.all fun g => fs.all fun x => bif bit g.m x.1 then true else isNone (g.s.h.get (nb + x.1))

def drawA (E : Env) : DrawT := fun f ops fr st =>
  bif okS E ops then
    force (st.next + ops.length) fun nx =>
    match run1 E f (fun fr o => wantedA ops fr o) st.next (masks ops) ops 0 [] 0 fr { h := st.h, next := nx } with
    | none => none
    | some (rs, fr', g, st') =>
      match frees rs 0 with
      | [] =>
        (match heavies rs (masks ops) 0 with
        | [] => some (fr', st')
        | H => bif okRecs E f st.next [] H { h := st.h, next := nx } (masks ops) rs 0 then some (fr', st') else none)
      | fs =>
        (match heavies rs (masks ops) 0 with
        | [] => some (fr', putF st.next (fun p => Bool.not (bit g p)) fs st')
        | H => bif okSlots st.next fs H then (bif okRecs E f st.next fs H { h := st.h, next := nx } (masks ops) rs 0 then some (fr', putF st.next (fun p => Bool.not (bit g p)) fs st') else none) else none)
  else none

/-! ### What the temporaries and the memory hold where some are done -/
def val : List Rec → Nat → (Nat → Bool) → (Tmp → AV) → (Tmp → AV)
  | [], _, _, g => g
  | r :: rs, k, D, g => val rs (k + 1) D (if D k = true then (fun t => if r.o.dst = some t then r.v else g t) else g)

theorem val_congr {t : Tmp} : ∀ (rs : List Rec) (k : Nat) (D D' : Nat → Bool) (g g' : Tmp → AV), g t = g' t → (∀ (j : Nat) r, rs[j]? = some r → r.o.dst = some t → D (k + j) = D' (k + j)) → val rs k D g t = val rs k D' g' t
  | [], _, _, _, _, _, hg, _ => hg
  | r :: rs, k, D, D', g, g', hg, h => by
    simp only [val]
    refine val_congr rs (k + 1) D D' _ _ ?_ (fun j r' hr hd => by have := h (j + 1) r' (by simpa using hr) hd; have e : k + (j + 1) = k + 1 + j := by omega
                                                                  rwa [e] at this)
    by_cases hd : r.o.dst = some t
    · have := h 0 r rfl hd
      simp only [Nat.add_zero] at this
      rw [this]
      by_cases hD : D' k = true <;> simp [hD, hd, hg]
    · by_cases h1 : D k = true <;> by_cases h2 : D' k = true <;> simp [h1, h2, hd, hg]

theorem val_none {t : Tmp} : ∀ (rs : List Rec) (k : Nat) (D : Nat → Bool) (g : Tmp → AV), (∀ (j : Nat) r, rs[j]? = some r → r.o.dst = some t → D (k + j) = false) → val rs k D g t = g t
  | [], _, _, _, _ => rfl
  | r :: rs, k, D, g, h => by
    simp only [val]
    rw [val_none rs (k + 1) D _ (fun j r' hr hd => by have := h (j + 1) r' (by simpa using hr) hd; have e : k + (j + 1) = k + 1 + j := by omega
                                                      rwa [e] at this)]
    by_cases hd : r.o.dst = some t
    · have := h 0 r rfl hd
      simp only [Nat.add_zero] at this
      simp [this]
    · by_cases h1 : D k = true <;> simp [h1, hd]

theorem val_at {t : Tmp} : ∀ (rs : List Rec) (k : Nat) (D : Nat → Bool) (g : Tmp → AV) (j : Nat) (r : Rec), rs[j]? = some r → r.o.dst = some t → D (k + j) = true →
    (∀ (j' : Nat) r', rs[j']? = some r' → j < j' → r'.o.dst = some t → D (k + j') = false) → val rs k D g t = r.v
  | [], _, _, _, _, _, h, _, _, _ => by simp at h
  | r0 :: rs, k, D, g, j, r, hr, hd, hD, h => by
    simp only [val]
    cases j with
    | zero =>
      simp only [List.getElem?_cons_zero, Option.some.injEq] at hr; subst hr
      rw [val_none rs (k + 1) D _ (fun j' r' hr' hd' => by have := h (j' + 1) r' (by simpa using hr') (by omega) hd'; have e : k + (j' + 1) = k + 1 + j' := by omega
                                                           rwa [e] at this)]
      simp only [Nat.add_zero] at hD
      simp [hD, hd]
    | succ j =>
      have e : k + (j + 1) = k + 1 + j := by omega
      exact val_at rs (k + 1) D _ j r (by simpa using hr) hd (by rwa [e] at hD) (fun j' r' hr' hlt hd' => by
        have := h (j' + 1) r' (by simpa using hr') (by omega) hd'
        have e : k + (j' + 1) = k + 1 + j' := by omega
        rwa [e] at this)

def lastH : List Rec → Nat → (Nat → Bool) → Option Nat × ASt → Option Nat × ASt
  | [], _, _, c => c
  | r :: rs, k, D, c => lastH rs (k + 1) D (if D k = true then (match r.hs with | some s => (some k, s) | none => c) else c)

theorem lastH_congr : ∀ (rs : List Rec) (k : Nat) (D D' : Nat → Bool) (c : Option Nat × ASt), (∀ (j : Nat) r, rs[j]? = some r → r.hs ≠ none → D (k + j) = D' (k + j)) → lastH rs k D c = lastH rs k D' c
  | [], _, _, _, _, _ => rfl
  | r :: rs, k, D, D', c, h => by
    simp only [lastH]
    rw [lastH_congr rs (k + 1) D D' _ (fun j r' hr hd => by have := h (j + 1) r' (by simpa using hr) hd; have e : k + (j + 1) = k + 1 + j := by omega
                                                            rwa [e] at this)]
    congr 1
    cases hr : r.hs with
    | none => simp
    | some s =>
      have := h 0 r rfl (by rw [hr]; simp)
      simp only [Nat.add_zero] at this
      rw [this]

theorem lastH_none : ∀ (rs : List Rec) (k : Nat) (D : Nat → Bool) (c : Option Nat × ASt), (∀ (j : Nat) r, rs[j]? = some r → r.hs ≠ none → D (k + j) = false) → lastH rs k D c = c
  | [], _, _, _, _ => rfl
  | r :: rs, k, D, c, h => by
    simp only [lastH]
    rw [lastH_none rs (k + 1) D _ (fun j r' hr hd => by have := h (j + 1) r' (by simpa using hr) hd; have e : k + (j + 1) = k + 1 + j := by omega
                                                        rwa [e] at this)]
    cases hr : r.hs with
    | none => simp
    | some s =>
      have := h 0 r rfl (by rw [hr]; simp)
      simp only [Nat.add_zero] at this
      simp [this]

theorem lastH_at : ∀ (rs : List Rec) (k : Nat) (D : Nat → Bool) (c : Option Nat × ASt) (j : Nat) (r : Rec) (s : ASt), rs[j]? = some r → r.hs = some s → D (k + j) = true →
    (∀ (j' : Nat) r', rs[j']? = some r' → j < j' → r'.hs ≠ none → D (k + j') = false) → lastH rs k D c = (some (k + j), s)
  | [], _, _, _, _, _, _, h, _, _, _ => by simp at h
  | r0 :: rs, k, D, c, j, r, s, hr, hs, hD, h => by
    simp only [lastH]
    cases j with
    | zero =>
      simp only [List.getElem?_cons_zero, Option.some.injEq] at hr; subst hr
      rw [lastH_none rs (k + 1) D _ (fun j' r' hr' hd' => by have := h (j' + 1) r' (by simpa using hr') (by omega) hd'; have e : k + (j' + 1) = k + 1 + j' := by omega
                                                             rwa [e] at this)]
      simp only [Nat.add_zero] at hD
      simp [hD, hs]
    | succ j =>
      have e : k + (j + 1) = k + 1 + j := by omega
      rw [e]
      exact lastH_at rs (k + 1) D _ j r s (by simpa using hr) hs (by rwa [e] at hD) (fun j' r' hr' hlt hd' => by
        have := h (j' + 1) r' (by simpa using hr') (by omega) hd'
        have e : k + (j' + 1) = k + 1 + j' := by omega
        rwa [e] at this)

/-- the last of the heavy ones that are done -/
theorem last_cases (rs : List Rec) (D : Nat → Bool) (c : Option Nat × ASt) :
    ((∀ (j : Nat) r, rs[j]? = some r → r.hs ≠ none → D j = false) ∧ lastH rs 0 D c = c) ∨
    (∃ j r s, rs[j]? = some r ∧ r.hs = some s ∧ D j = true ∧ (∀ (j' : Nat) r', rs[j']? = some r' → j < j' → r'.hs ≠ none → D j' = false) ∧ lastH rs 0 D c = (some j, s)) := by
  have key : ∀ n, n ≤ rs.length → ((∀ (j : Nat) r, rs[j]? = some r → rs.length - n ≤ j → r.hs ≠ none → D j = false)) ∨
      (∃ (j : Nat) (r : Rec) (s : ASt), rs[j]? = some r ∧ r.hs = some s ∧ D j = true ∧ (∀ (j' : Nat) r', rs[j']? = some r' → j < j' → r'.hs ≠ none → D j' = false)) := by
    intro n
    induction n with
    | zero =>
      intro _
      refine .inl fun j r hj hle => ?_
      have := (List.getElem?_eq_some_iff.1 hj).1
      omega
    | succ n ih =>
      intro hn
      rcases ih (by omega) with h | h
      · have hlt : rs.length - (n + 1) < rs.length := by omega
        have hx : rs[rs.length - (n + 1)]? = some (rs[rs.length - (n + 1)]'hlt) := by simp [hlt]
        cases hs : (rs[rs.length - (n + 1)]'hlt).hs with
        | none =>
          refine .inl fun j r hj hle hr => ?_
          by_cases e : j = rs.length - (n + 1)
          · subst e; rw [hx] at hj; cases hj; exact absurd hs hr
          · exact h j r hj (by omega) hr
        | some s =>
          cases hD : D (rs.length - (n + 1)) with
          | false =>
            refine .inl fun j r hj hle hr => ?_
            by_cases e : j = rs.length - (n + 1)
            · subst e; exact hD
            · exact h j r hj (by omega) hr
          | true => exact .inr ⟨_, _, s, hx, hs, hD, fun j' r' hj' hlt' hr' => h j' r' hj' (by omega) hr'⟩
      · exact .inr h
  rcases key rs.length (Nat.le_refl _) with h | ⟨j, r, s, h1, h2, h3, h4⟩
  · have h' : ∀ (j : Nat) r, rs[j]? = some r → r.hs ≠ none → D j = false := fun j r hj hr => h j r hj (by omega) hr
    exact .inl ⟨h', lastH_none rs 0 D c (fun j r hj hr => by simpa using h' j r hj hr)⟩
  · refine .inr ⟨j, r, s, h1, h2, h3, h4, ?_⟩
    have := lastH_at rs 0 D c j r s h1 h2 (by simpa using h3) (fun j' r' a b d => by simpa using h4 j' r' a b d)
    simpa using this

theorem put_look {fr fr' : AFr} {d : Option Tmp} {v : AV} (h : fr.put d v = some fr') :
    (∀ t, (fr'.m.get t).getD undefA = if d = some t then v else (fr.m.get t).getD undefA) ∧ fr'.n = fr.n ∧ fr'.defs = fr.defs := by
  obtain ⟨m, n, ds⟩ := fr
  cases d with
  | none => simp only [AFr.put, Option.some.injEq] at h; subst h; exact ⟨fun t => by simp, rfl, rfl⟩
  | some d =>
    simp only [AFr.put] at h
    cases hb : Nat.ble (Nat.succ d) n
    · simp [hb] at h
    · simp only [hb, cond_true, Option.some.injEq] at h; subst h
      refine ⟨fun t => ?_, rfl, rfl⟩
      simp only [T.get_set, Option.some.injEq]
      by_cases e : t = d
      · subst e; simp
      · have : ¬ d = t := fun h => e h.symm
        simp [e, this]

theorem put_some {fr fr0 fr1 : AFr} {d : Option Tmp} {v u : AV} (h : fr0.put d u = some fr1) (hn : fr.n = fr0.n) : ∃ fr', fr.put d v = some fr' := by
  obtain ⟨m, n, ds⟩ := fr; obtain ⟨m0, n0, ds0⟩ := fr0
  simp only at hn; subst hn
  cases d with
  | none => exact ⟨_, rfl⟩
  | some d =>
    simp only [AFr.put] at h ⊢
    cases hb : Nat.ble (Nat.succ d) n
    · simp [hb] at h
    · exact ⟨_, rfl⟩

def base (fr : AFr) : Tmp → AV := fun t => (fr.m.get t).getD undefA

def gm (bs : List Nat) : Option Nat → Nat
  | none => 0
  | some k => bs.getD k 0

/-- what one run tells -/
structure RunOK (E : Env) (f : Oper → AFr → ASt → Option (AV × ASt)) (wd : AFr → Oper → Bool) (nb : Nat) (bs : List Nat) (ops : List Oper) (fr : AFr) (st : ASt) (rs : List Rec) (fr' : AFr) (g : Nat) (st' : ASt) : Prop where
  len : rs.length = ops.length
  at_ : ∀ (i : Nat) r, rs[i]? = some r → ops[i]? = some r.o ∧ r.fr.n = fr.n ∧ (∃ fr1, r.fr.put r.o.dst r.v = some fr1) ∧ (∀ t, (r.fr.m.get t).getD undefA = val rs 0 (fun j => decide (j < i)) (base fr) t) ∧
    ((isFree E r.o = true ∧ r.hs = none ∧ ((wd r.fr r.o = true ∧ ∃ x, aFree E r.o r.fr = some x ∧ r.ob = some x.1 ∧ r.v = x.2.val (nb + i)) ∨ (wd r.fr r.o = false ∧ r.ob = none ∧ r.v = undefA))) ∨
     (isFree E r.o = false ∧ r.ob = none ∧ ∃ s', f r.o r.fr (putF nb (qm (bs.getD i 0) (gm bs (lastH rs 0 (fun j => decide (j < i)) (none, st)).1)) (frees rs 0) (lastH rs 0 (fun j => decide (j < i)) (none, st)).2) = some (r.v, s') ∧
        (r.hs = if isLight E r.o = true then none else some s') ∧
        (isLight E r.o = false → Nat.land (gm bs (lastH rs 0 (fun j => decide (j < i)) (none, st)).1) (bs.getD i 0) = gm bs (lastH rs 0 (fun j => decide (j < i)) (none, st)).1)))
  fin : fr'.n = fr.n ∧ fr'.defs = fr.defs ∧ ∀ t, (fr'.m.get t).getD undefA = val rs 0 (fun _ => true) (base fr) t
  fins : st' = (lastH rs 0 (fun _ => true) (none, st)).2 ∧ g = gm bs (lastH rs 0 (fun _ => true) (none, st)).1
end
end Go.Ax
