/-
  OWN WORK, TOLD ONCE FOR ALL TEXTS YtmjmpmmonelmmaaAxA TO YtmjmpmmonelmmaaAxU: an abstract machine for the program's text that the kernel can run, and the proof that it is sound: what it answers is what the program answers. No condition.
-/
import Derived.Test.YtmjmpmmonelmmaaAxEs
namespace Go.Ax
noncomputable section
open Go.RowKit

/-! ### A run that asks: a tree of what is open -/
inductive Tr (α : Type) where
  | ret (a : Option α)
  | askB (b : Bool) (t f : Tr α)
  | askV (x : Option (AV × ASt)) (k : AV × ASt → Tr α)
  | askE (x : Option (Exit × AFr × ASt)) (k : Exit × AFr × ASt → Tr α)
  | askC (b : Bool) (p : Prop) (h : p → b = true) (t : Tr α)

def Tr.bind {α β : Type} (t : Tr α) (k : α → Tr β) : Tr β :=
  @Tr.rec α (fun _ => Tr β) (fun a => match a with | some a => k a | none => .ret none) (fun b _ _ it jf => .askB b it jf) (fun x _ ih => .askV x ih) (fun x _ ih => .askE x ih) (fun b p h _ ih => .askC b p h ih) t

def Tr.ev {α : Type} (t : Tr α) : Option α :=
  @Tr.rec α (fun _ => Option α) (fun a => a) (fun b _ _ it jf => bif b then it else jf) (fun x _ ih => match x with | some y => ih y | none => none) (fun x _ ih => match x with | some y => ih y | none => none) (fun b _ _ _ ih => bif b then ih else none) t

/-- what is to be shown of such a run -/
def Tr.all {α : Type} (Q : α → Prop) (t : Tr α) : Prop :=
  @Tr.rec α (fun _ => Prop) (fun a => match a with | some a => Q a | none => False) (fun b _ _ it jf => (b = true → it) ∧ (b = false → jf))
    (fun x _ ih => ∃ y, x = some y ∧ ih y) (fun x _ ih => ∃ y, x = some y ∧ ih y) (fun _ p _ _ ih => p ∧ ih) t

theorem Tr.all_ev {α : Type} {Q : α → Prop} (t : Tr α) (h : t.all Q) : ∃ a, t.ev = some a ∧ Q a := by
  induction t with
  | ret a => cases a with
    | some a => exact ⟨a, rfl, h⟩
    | none => exact h.elim
  | askB b t f it jf => cases b with
    | true => exact it (h.1 rfl)
    | false => exact jf (h.2 rfl)
  | askV x k ih => obtain ⟨y, rfl, h⟩ := h; exact ih y h
  | askE x k ih => obtain ⟨y, rfl, h⟩ := h; exact ih y h
  | askC b p hp t ih =>
    have hb := hp h.1
    subst hb
    exact ih h.2

/-- the same, with what the asked operations answer -/
def Tr.allA {α : Type} (Q : α → Prop) (t : Tr α) : List (AV × ASt) → Prop :=
  @Tr.rec α (fun _ => List (AV × ASt) → Prop) (fun a _ => match a with | some a => Q a | none => False) (fun b _ _ it jf ys => (b = true → it ys) ∧ (b = false → jf ys))
    (fun x _ ih ys => match ys with | y :: ys => x = some y ∧ ih y ys | [] => False) (fun _ _ _ _ => False) (fun _ p _ _ ih ys => p ∧ ih ys) t

theorem Tr.allA_all {α : Type} {Q : α → Prop} (t : Tr α) : ∀ ys, t.allA Q ys → t.all Q := by
  induction t with
  | ret a => intro ys h; exact h
  | askB b t f it jf => intro ys h; exact ⟨fun e => it ys (h.1 e), fun e => jf ys (h.2 e)⟩
  | askV x k ih => intro ys h; cases ys with
    | nil => exact h.elim
    | cons y ys => exact ⟨y, h.1, ih y ys h.2⟩
  | askE x k ih => intro ys h; exact h.elim
  | askC b p hp t ih => intro ys h; exact ⟨h.1, ih ys h.2⟩

theorem Tr.bind_ev {α β : Type} (t : Tr α) (k : α → Tr β) : (t.bind k).ev = match t.ev with | some a => (k a).ev | none => none := by
  induction t with
  | ret a => cases a <;> rfl
  | askB b t f it jf => cases b with
    | true => exact it
    | false => exact jf
  | askV x f ih => cases x with
    | some y => exact ih y
    | none => rfl
  | askE x f ih => cases x with
    | some y => exact ih y
    | none => rfl
  | askC b p hp t ih => cases b with
    | true => exact ih
    | false => rfl

/-- what is open in a function: operations (by where they write), calls to be run likewise, operations that answer a test to be asked, blocks -/
structure Fl where
  v : List Nat
  c : List Nat
  b : List Nat
  l : List Nat

def flOf : List (Nat × Fl) → Nat → Option Fl
  | [], _ => none
  | x :: xs, f => bif Nat.beq x.1 f then some x.2 else flOf xs f

def memO (l : List Nat) : Option Nat → Bool
  | some d => memN d l
  | none => memN 4095 l

abbrev CallTT := FuncId → List AV → ASt → Tr (AV × ASt)
abbrev ExecTT := Option Nat → Code → AFr → ASt → Tr (Exit × AFr × ASt)

def openO (fl : Fl) (o : Oper) : Bool := memO fl.v o.dst || (memO fl.c o.dst || memO fl.b o.dst)

/-- a test is asked where it is made -/
def askR (x : Option (AV × ASt)) : Tr (AV × ASt) :=
  match x with
  | some (.bool b, st) => .askB b (.ret (some (.bool true, st))) (.ret (some (.bool false, st)))
  | r => .ret r

theorem askR_ev (x : Option (AV × ASt)) : (askR x).ev = x := by
  unfold askR
  split
  · rename_i b st; cases b <;> rfl
  · rfl

def aCallT (E : Env) (call : CallT) (round : CallT) (callT roundT : CallTT) (o : Oper) (fr : AFr) (st : ASt) : Tr (AV × ASt) :=
  match o.op with
  | .call c =>
    match evL fr c.args.toList with
    | none => .ret none
    | some args =>
      match c.callee with
      | .value f =>
        match evA fr f with
        | some (.clos g caps) =>
          match E.ex.get g with
          | some x => .ret (still st (x (args ++ caps)))
          | none => callT g (args ++ caps) st
        | some (.bound g fs caps) => callT g (fs ++ args ++ caps) st
        | some (.yield l) => roundT l args st
        | _ => .ret none
      | _ => .ret (aOp E call round o fr st)
  | _ => .ret (aOp E call round o fr st)

def goT (E : Env) (call : CallT) (round : CallT) (callT roundT : CallTT) (fl : Fl) (o : Oper) (fr : AFr) (st : ASt) : Tr (AV × ASt) :=
  bif memO fl.v o.dst then .askV (aOp E call round o fr st) (fun y => bif memO fl.b o.dst then askR (some y) else .ret (some y))
  else bif memO fl.c o.dst then aCallT E call round callT roundT o fr st
  else bif memO fl.b o.dst then askR (aOp E call round o fr st)
  else .ret (aOp E call round o fr st)

def stepT (E : Env) (call : CallT) (round : CallT) (callT roundT : CallTT) (fl : Fl) (ops : List Oper) (o : Oper) (fr : AFr) (st : ASt) : Tr (AV × ASt) :=
  bif guardAny ops fr o then .ret none else
  bif wantedA ops fr o then goT E call round callT roundT fl o fr st else .ret (some (undefA, st))

section
variable {E : Env} {call round : CallT} {callT roundT : CallTT}

theorem goT_ev (hc : ∀ f a s, (callT f a s).ev = call f a s) (hr : ∀ f a s, (roundT f a s).ev = round f a s) (fl : Fl) (o : Oper) (fr : AFr) (st : ASt) : (goT E call round callT roundT fl o fr st).ev = aOp E call round o fr st := by
  unfold goT
  cases memO fl.v o.dst
  · cases memO fl.c o.dst
    · cases memO fl.b o.dst
      · rfl
      · exact askR_ev _
    · show (aCallT E call round callT roundT o fr st).ev = _
      unfold aCallT
      split
      · rename_i c ho
        have e : aOp E call round o fr st = aCall E call round c fr st := by unfold aOp; rw [ho]
        rw [e]
        unfold aCall
        cases ha : evL fr c.args.toList with
        | none => rfl
        | some args =>
          simp only
          cases hf : c.callee with
          | builtin b =>
            simp only [Tr.ev]
          | invoke r m =>
            simp only [Tr.ev]
          | value f =>
            simp only
            cases hv : evA fr f with
            | none => rfl
            | some v =>
              cases v with
              | clos g caps =>
                simp only
                cases E.ex.get g with
                | some x => rfl
                | none => exact hc _ _ _
              | bound g fs caps => exact hc _ _ _
              | yield l => exact hr _ _ _
              | _ => rfl
      · rfl
  · show (match aOp E call round o fr st with | some y => (bif memO fl.b o.dst then askR (some y) else Tr.ret (some y)).ev | none => none) = _
    cases aOp E call round o fr st with
    | none => rfl
    | some y =>
      cases memO fl.b o.dst
      · rfl
      · exact askR_ev (some y)

theorem stepT_ev (hc : ∀ f a s, (callT f a s).ev = call f a s) (hr : ∀ f a s, (roundT f a s).ev = round f a s) (fl : Fl) (ops : List Oper) (o : Oper) (fr : AFr) (st : ASt) :
    (stepT E call round callT roundT fl ops o fr st).ev = stepV E call round ops o fr st := by
  unfold stepT stepV
  cases guardAny ops fr o
  · simp only [cond_false]
    cases wantedA ops fr o
    · rfl
    · exact goT_ev hc hr fl o fr st
  · rfl
end

def regT (s : Oper → AFr → ASt → Tr (AV × ASt)) : List Oper → AFr → ASt → Tr (AFr × ASt)
  | [], fr, st => .ret (some (fr, st))
  | o :: os, fr, st => (s o fr st).bind fun r => match fr.put o.dst r.1 with | some fr' => regT s os fr' r.2 | none => .ret none

theorem regT_ev {E : Env} {call round : CallT} {ops : List Oper} {s : Oper → AFr → ASt → Tr (AV × ASt)} (hs : ∀ o fr st, (s o fr st).ev = stepV E call round ops o fr st) :
    ∀ (l : List Oper) (fr : AFr) (st : ASt), (regT s l fr st).ev = regL (step E call round ops) l fr st
  | [], fr, st => rfl
  | o :: os, fr, st => by
    simp only [regT, regL, Tr.bind_ev, hs, step]
    cases stepV E call round ops o fr st with
    | none => rfl
    | some r =>
      obtain ⟨v, st'⟩ := r
      simp only
      cases fr.put o.dst v with
      | none => rfl
      | some fr' => exact regT_ev hs os fr' st'

def run1T (E : Env) (s : Oper → AFr → ASt → Tr (AV × ASt)) (wd : AFr → Oper → Bool) (nb : Nat) (bs : List Nat) : List Oper → Nat → List (Nat × AO) → Nat → AFr → ASt → Tr (List Rec × AFr × Nat × ASt)
  | [], _, _, g, fr, st => .ret (some ([], fr, g, st))
  | o :: os, i, fs, g, fr, st =>
    bif isFree E o then
      bif wd fr o then
        match aFree E o fr with
        | none => .ret none
        | some x =>
          match fr.put o.dst (x.2.val (nb + i)) with
          | none => .ret none
          | some fr' => (run1T E s wd nb bs os (i + 1) (fs ++ [(i, x.1)]) g fr' st).bind fun z => .ret (some (⟨o, fr, x.2.val (nb + i), none, some x.1⟩ :: z.1, z.2))
      else
        match fr.put o.dst undefA with
        | none => .ret none
        | some fr' => (run1T E s wd nb bs os (i + 1) fs g fr' st).bind fun z => .ret (some (⟨o, fr, undefA, none, none⟩ :: z.1, z.2))
    else
      (s o fr (putF nb (qm (bs.getD i 0) g) fs st)).bind fun r =>
        match fr.put o.dst r.1 with
        | none => .ret none
        | some fr' =>
          bif isLight E o then
            (run1T E s wd nb bs os (i + 1) fs g fr' st).bind fun z => .ret (some (⟨o, fr, r.1, none, none⟩ :: z.1, z.2))
          else bif Nat.beq (Nat.land g (bs.getD i 0)) g then
            (run1T E s wd nb bs os (i + 1) fs (bs.getD i 0) fr' r.2).bind fun z => .ret (some (⟨o, fr, r.1, some r.2, none⟩ :: z.1, z.2))
          else .ret none

theorem run1T_ev {E : Env} {f : Oper → AFr → ASt → Option (AV × ASt)} {s : Oper → AFr → ASt → Tr (AV × ASt)} (hs : ∀ o fr st, (s o fr st).ev = f o fr st) (wd : AFr → Oper → Bool) (nb : Nat) (bs : List Nat) :
    ∀ (l : List Oper) (i : Nat) (fs : List (Nat × AO)) (g : Nat) (fr : AFr) (st : ASt), (run1T E s wd nb bs l i fs g fr st).ev = run1 E f wd nb bs l i fs g fr st
  | [], i, fs, g, fr, st => rfl
  | o :: os, i, fs, g, fr, st => by
    simp only [run1T, run1]
    cases isFree E o
    · simp only [cond_false, Tr.bind_ev, hs]
      cases f o fr (putF nb (qm (bs.getD i 0) g) fs st) with
      | none => rfl
      | some r =>
        obtain ⟨v, st'⟩ := r
        simp only
        cases fr.put o.dst v with
        | none => rfl
        | some fr' =>
          simp only
          cases isLight E o
          · simp only [cond_false]
            cases Nat.beq (Nat.land g (bs.getD i 0)) g
            · rfl
            · simp only [cond_true, Tr.bind_ev, run1T_ev hs wd nb bs os]
              cases run1 E f wd nb bs os (i + 1) fs (bs.getD i 0) fr' st' with
              | none => rfl
              | some z => rfl
          · simp only [cond_true, Tr.bind_ev, run1T_ev hs wd nb bs os]
            cases run1 E f wd nb bs os (i + 1) fs g fr' st with
            | none => rfl
            | some z => rfl
    · simp only [cond_true]
      cases wd fr o
      · simp only [cond_false]
        cases fr.put o.dst undefA with
        | none => rfl
        | some fr' =>
          simp only [Tr.bind_ev, run1T_ev hs wd nb bs os]
          cases run1 E f wd nb bs os (i + 1) fs g fr' st with
          | none => rfl
          | some z => rfl
      · simp only [cond_true]
        cases aFree E o fr with
        | none => rfl
        | some x =>
          simp only
          cases fr.put o.dst (x.2.val (nb + i)) with
          | none => rfl
          | some fr' =>
            simp only [Tr.bind_ev, run1T_ev hs wd nb bs os]
            cases run1 E f wd nb bs os (i + 1) (fs ++ [(i, x.1)]) g fr' st with
            | none => rfl
            | some z => rfl

/-- what is to be held of operations that may come earlier or later: what they answer there, what they answered -/
def reO (f : Oper → AFr → ASt → Option (AV × ASt)) (r : Rec) (s : ASt) : Option AV × AV := (match f r.o r.fr s with | some (v, _) => some v | none => none, r.v)
def oblG (f : Oper → AFr → ASt → Option (AV × ASt)) (nb : Nat) (fs : List (Nat × AO)) (i m : Nat) (r : Rec) (H : List Hv) : List Hv → List (Option AV × AV)
  | [] => []
  | g :: gs => bif skipS H i m g then oblG f nb fs i m r H gs else reO f r (putF nb (qm m g.m) fs g.s) :: oblG f nb fs i m r H gs
def oblRec (E : Env) (f : Oper → AFr → ASt → Option (AV × ASt)) (nb : Nat) (fs : List (Nat × AO)) (H : List Hv) (s0 : ASt) (i m : Nat) (r : Rec) : List (Option AV × AV) :=
  match r.hs with
  | some _ => []
  | none =>
    bif isFree E r.o then [] else
    bif isPure E r.o then [] else
    bif skipN H i m then oblG f nb fs i m r H H else reO f r (putF nb (qm m 0) fs s0) :: oblG f nb fs i m r H H
def appO : List (Option AV × AV) → List (Option AV × AV) → List (Option AV × AV)
  | [], l => l
  | x :: xs, l => x :: appO xs l
def oblRecs (E : Env) (f : Oper → AFr → ASt → Option (AV × ASt)) (nb : Nat) (fs : List (Nat × AO)) (H : List Hv) (s0 : ASt) (bs : List Nat) : List Rec → Nat → List (Option AV × AV)
  | [], _ => []
  | r :: rs, i => appO (oblRec E f nb fs H s0 i (bs.getD i 0) r) (oblRecs E f nb fs H s0 bs rs (i + 1))
def holdsO : List (Option AV × AV) → Prop
  | [] => True
  | x :: xs => (x.1 = some x.2 ∧ avEq x.2 x.2 = true) ∧ holdsO xs

theorem holdsO_app : ∀ {a b : List (Option AV × AV)}, holdsO (appO a b) → holdsO a ∧ holdsO b
  | [], _, h => ⟨trivial, h⟩
  | _ :: xs, b, h => let ⟨h1, h2⟩ := holdsO_app (a := xs) (b := b) h.2; ⟨⟨h.1, h1⟩, h2⟩
theorem reO_ok {f : Oper → AFr → ASt → Option (AV × ASt)} {r : Rec} {s : ASt} (h : (reO f r s).1 = some (reO f r s).2 ∧ avEq (reO f r s).2 (reO f r s).2 = true) : reEv f r s = true := by
  unfold reO at h
  unfold reEv
  simp only at h
  cases hq : f r.o r.fr s with
  | none => rw [hq] at h; cases h.1
  | some p =>
    obtain ⟨v, st⟩ := p
    rw [hq] at h
    simp only [Option.some.injEq] at h
    simp only
    rw [h.1]; exact h.2
theorem oblG_ok {f : Oper → AFr → ASt → Option (AV × ASt)} {nb : Nat} {fs : List (Nat × AO)} {i m : Nat} {r : Rec} {H : List Hv} : ∀ (G : List Hv), holdsO (oblG f nb fs i m r H G) → (G.all fun g => bif skipS H i m g then true else reEv f r (putF nb (qm m g.m) fs g.s)) = true
  | [], _ => rfl
  | g :: gs, h => by
    simp only [List.all_cons, Bool.and_eq_true]
    unfold oblG at h
    cases hk : skipS H i m g
    · rw [hk, cond_false] at h
      exact ⟨reO_ok h.1, oblG_ok gs h.2⟩
    · rw [hk, cond_true] at h
      exact ⟨rfl, oblG_ok gs h⟩
theorem oblRecs_ok {E : Env} {f : Oper → AFr → ASt → Option (AV × ASt)} {nb : Nat} {fs : List (Nat × AO)} {H : List Hv} {s0 : ASt} {bs : List Nat} : ∀ (rs : List Rec) (i : Nat), holdsO (oblRecs E f nb fs H s0 bs rs i) → okRecs E f nb fs H s0 bs rs i = true
  | [], _, _ => rfl
  | r :: rs, i, h => by
    unfold oblRecs at h
    obtain ⟨h1, h2⟩ := holdsO_app h
    unfold okRecs
    have h3 : okRec E f nb fs H s0 i (bs.getD i 0) r = true := by
      unfold oblRec at h1
      unfold okRec
      split
      · rfl
      · rename_i hn
        rw [hn] at h1
        simp only at h1
        cases hf : isFree E r.o
        · rw [hf, cond_false] at h1
          cases hp : isPure E r.o
          · rw [hp, cond_false] at h1
            simp only [cond_false]
            cases hk : skipN H i (bs.getD i 0)
            · rw [hk, cond_false] at h1
              simp only [cond_false]
              rw [reO_ok h1.1, cond_true]
              exact oblG_ok H h1.2
            · rw [hk, cond_true] at h1
              simp only [cond_true]
              exact oblG_ok H h1
          · rfl
        · rfl
    rw [h3, cond_true]
    exact oblRecs_ok rs (i + 1) h2

def yesT {α : Type} (E : Env) (f : Oper → AFr → ASt → Option (AV × ASt)) (nb : Nat) (fs : List (Nat × AO)) (H : List Hv) (s0 : ASt) (bs : List Nat) (rs : List Rec) (a : α) : Tr α :=
  .askC (okRecs E f nb fs H s0 bs rs 0) (holdsO (oblRecs E f nb fs H s0 bs rs 0)) (oblRecs_ok rs 0) (.ret (some a))
theorem yesT_ev {α : Type} {E : Env} {f : Oper → AFr → ASt → Option (AV × ASt)} {nb : Nat} {fs : List (Nat × AO)} {H : List Hv} {s0 : ASt} {bs : List Nat} {rs : List Rec} (a : α) :
    (yesT E f nb fs H s0 bs rs a).ev = bif okRecs E f nb fs H s0 bs rs 0 then some a else none := rfl

def drawT (E : Env) (f : Oper → AFr → ASt → Option (AV × ASt)) (s : Oper → AFr → ASt → Tr (AV × ASt)) (ops : List Oper) (fr : AFr) (st : ASt) : Tr (AFr × ASt) :=
  bif okS E ops then
    force (st.next + ops.length) fun nx =>
    (run1T E s (fun fr o => wantedA ops fr o) st.next (masks ops) ops 0 [] 0 fr { h := st.h, next := nx }).bind fun z =>
      match z with
      | (rs, fr', g, st') =>
        match frees rs 0 with
        | [] =>
          (match heavies rs (masks ops) 0 with
          | [] => .ret (some (fr', st'))
          | H => yesT E f st.next [] H { h := st.h, next := nx } (masks ops) rs (fr', st'))
        | fs =>
          (match heavies rs (masks ops) 0 with
          | [] => .ret (some (fr', putF st.next (fun p => Bool.not (bit g p)) fs st'))
          | H => bif okSlots st.next fs H then yesT E f st.next fs H { h := st.h, next := nx } (masks ops) rs (fr', putF st.next (fun p => Bool.not (bit g p)) fs st') else .ret none)
  else .ret none

theorem drawT_ev {E : Env} {f : Oper → AFr → ASt → Option (AV × ASt)} {s : Oper → AFr → ASt → Tr (AV × ASt)} (hs : ∀ o fr st, (s o fr st).ev = f o fr st) (ops : List Oper) (fr : AFr) (st : ASt) :
    (drawT E f s ops fr st).ev = drawA E f ops fr st := by
  unfold drawT drawA
  cases okS E ops
  · rfl
  · simp only [cond_true, force_eq, Tr.bind_ev, run1T_ev hs]
    cases run1 E f (fun fr o => wantedA ops fr o) st.next (masks ops) ops 0 [] 0 fr { h := st.h, next := st.next + ops.length } with
    | none => rfl
    | some z =>
      obtain ⟨rs, fr', g, st'⟩ := z
      simp only
      cases frees rs 0 with
      | nil =>
        simp only
        cases heavies rs (masks ops) 0 with
        | nil => rfl
        | cons a l => exact yesT_ev _
      | cons x fs =>
        simp only
        cases heavies rs (masks ops) 0 with
        | nil => rfl
        | cons a l =>
          simp only
          cases okSlots st.next (x :: fs) (a :: l)
          · rfl
          · exact yesT_ev _

def loopT (f : AFr → ASt → Tr (Exit × AFr × ASt)) : Nat → AFr → ASt → Tr (Exit × AFr × ASt)
  | 0, fr, st => f fr st
  | d + 1, fr, st => (loopT f d fr st).bind fun r => match r with | (.normal, fr', st') => loopT f d fr' st' | r => .ret (some r)

theorem loopT_ev {f : AFr → ASt → Option (Exit × AFr × ASt)} {g : AFr → ASt → Tr (Exit × AFr × ASt)} (h : ∀ fr st, (g fr st).ev = f fr st) : ∀ (d : Nat) (fr : AFr) (st : ASt), (loopT g d fr st).ev = loopN f d fr st
  | 0, fr, st => h fr st
  | d + 1, fr, st => by
    simp only [loopT, loopN, Tr.bind_ev, loopT_ev h d]
    cases loopN f d fr st with
    | none => rfl
    | some r =>
      obtain ⟨e, fr', st'⟩ := r
      cases e <;> first | exact loopT_ev h d fr' st' | rfl

def callFT (E : Env) (ex : ExecTT) : CallTT := fun f args st =>
  match E.fn.get f with
  | none => .ret none
  | some fn =>
    match fn.body with
    | none => .ret none
    | some c =>
      bif Nat.ble args.length fn.ntmps then
        (ex none c { m := putArgs args 0 .e, n := fn.ntmps, defs := [] } st).bind fun r =>
          match r with
          | (.normal, fr, st') => .ret (leaveA E fn fr st')
          | (.ret, fr, st') => .ret (leaveA E fn fr st')
          | _ => .ret none
      else .ret none

theorem callFT_ev {E : Env} {ex : ExecT} {exT : ExecTT} (h : ∀ ro c fr st, (exT ro c fr st).ev = ex ro c fr st) (f : FuncId) (args : List AV) (st : ASt) : (callFT E exT f args st).ev = callF E ex f args st := by
  unfold callFT callF
  cases E.fn.get f with
  | none => rfl
  | some fn =>
    simp only
    cases fn.body with
    | none => rfl
    | some c =>
      simp only
      cases Nat.ble args.length fn.ntmps
      · rfl
      · simp only [cond_true, Tr.bind_ev, h]
        cases ex none c { m := putArgs args 0 .e, n := fn.ntmps, defs := [] } st with
        | none => rfl
        | some r =>
          obtain ⟨e, fr', st'⟩ := r
          cases e <;> rfl

def roundFT (ex : ExecTT) : CallTT := fun l args st =>
  match st.h.get l with
  | some (.loop _ _ tm ps as bo _) =>
    match setPs ps args { tm with defs := [] } with
    | none => .ret none
    | some fr =>
      (ex (some l) as fr st).bind fun r =>
      match r with
      | (.normal, fr1, st1) =>
        match st1.h.get l with
        | some (.loop .ready pe tm1 ps1 as1 bo1 de1) =>
          (ex (some l) bo fr1 (st1.put l (.loop .busy pe tm1 ps1 as1 bo1 de1))).bind fun r =>
          match r with
          | (.normal, _, st2) => .ret (endR l none st2)
          | (.ret, _, st2) => .ret (endR l (some .ret) st2)
          | (.exit id, _, st2) => .ret (endR l (some (.exit id)) st2)
          | (.goto t, _, st2) => .ret (endR l (some (.goto t)) st2)
          | _ => .ret none
        | _ => .ret none
      | _ => .ret none
  | _ => .ret none

theorem roundFT_ev {ex : ExecT} {exT : ExecTT} (h : ∀ ro c fr st, (exT ro c fr st).ev = ex ro c fr st) (l : FuncId) (args : List AV) (st : ASt) : (roundFT exT l args st).ev = roundF ex l args st := by
  unfold roundFT roundF
  cases hl : st.h.get l with
  | none => rfl
  | some x =>
    cases x <;> simp only <;> first | rfl | skip
    rename_i s0 pe0 tm ps as bo de0
    cases setPs ps args { tm with defs := [] } with
    | none => rfl
    | some fr =>
      simp only [Tr.bind_ev, h]
      cases ex (some l) as fr st with
      | none => rfl
      | some r =>
        obtain ⟨e, fr1, st1⟩ := r
        cases e <;> simp only <;> first | rfl | skip
        cases st1.h.get l with
        | none => rfl
        | some y =>
          cases y with
          | loop s pe tm1 ps1 as1 bo1 de1 =>
            cases s with
            | ready =>
              simp only [Tr.bind_ev, h]
              cases ex (some l) bo fr1 (st1.put l (.loop .busy pe tm1 ps1 as1 bo1 de1)) with
              | none => rfl
              | some r =>
                obtain ⟨e, fr2, st2⟩ := r
                cases e <;> rfl
            | _ => rfl
          | _ => rfl

structure TMach where
  ex : Fl → ExecTT
  call : CallTT
  round : CallTT

def execT (E : Env) (m : Mach) (t : TMach) (fl : Fl) : ExecTT := fun ro c fr st =>
  match c with
  | .region _ ops false =>
    bif ops.toList.any (openO fl) then
      (regT (stepT E m.call m.round t.call t.round fl ops.toList) ops.toList fr st).bind fun r => .ret (some (.normal, r.1, r.2))
    else .ret (execF E (drawA E) m.ex m.call m.round ro c fr st)
  | .region _ ops true =>
    bif ops.toList.any (openO fl) then
      (drawT E (stepV E m.call m.round ops.toList) (stepT E m.call m.round t.call t.round fl ops.toList) ops.toList fr st).bind fun r => .ret (some (.normal, r.1, r.2))
    else .ret (execF E (drawA E) m.ex m.call m.round ro c fr st)
  | .seq a b => (t.ex fl ro a fr st).bind fun r => match r with | (.normal, fr', st') => t.ex fl ro b fr' st' | r => .ret (some r)
  | .cond x tc ec =>
    match evA fr x with
    | some (.bool v) => bif v then t.ex fl ro tc fr st else t.ex fl ro ec fr st
    | _ => .ret none
  | .block id body =>
    bif memN id fl.l then .askE (execF E (drawA E) m.ex m.call m.round ro (.block id body) fr st) (fun r => .ret (some r)) else
    (t.ex fl ro body fr st).bind fun r =>
      match r with
      | (.exit i, fr', st') => bif Nat.beq i id then .ret (some (.normal, fr', st')) else .ret (some (.exit i, fr', st'))
      | r => .ret (some r)
  | .loop body =>
    match leftHas body with
    | some _ => .ret (execF E (drawA E) m.ex m.call m.round ro (.loop body) fr st)
    | none => (loopT (t.ex fl ro body) 24 fr st).bind fun r => match r with | (.normal, _, _) => .ret none | r => .ret (some r)
  | c => .ret (execF E (drawA E) m.ex m.call m.round ro c fr st)

def TM (E : Env) (sum : CallT) (fls : List (Nat × Fl)) (rf : Fl) : Nat → TMach
  | 0 => { ex := fun _ _ _ _ _ => .ret none, call := fun _ _ _ => .ret none, round := fun _ _ _ => .ret none }
  | n + 1 =>
    let m := M E (drawA E) sum n
    let t := TM E sum fls rf n
    { ex := execT E m t,
      call := fun f args st => match flOf fls f with | none => .ret ((M E (drawA E) sum (n + 1)).call f args st) | some fl => (match sum f args st with | some r => .ret (some r) | none => callFT E (t.ex fl) f args st),
      round := roundFT (t.ex rf) }

theorem execT_ev {E : Env} {m : Mach} {t : TMach} (hx : ∀ fl ro c fr st, (t.ex fl ro c fr st).ev = m.ex ro c fr st) (hc : ∀ f a s, (t.call f a s).ev = m.call f a s) (hr : ∀ f a s, (t.round f a s).ev = m.round f a s)
    (fl : Fl) (ro : Option Nat) (c : Code) (fr : AFr) (st : ASt) : (execT E m t fl ro c fr st).ev = execF E (drawA E) m.ex m.call m.round ro c fr st := by
  unfold execT
  split
  · rename_i id ops
    cases ops.toList.any (openO fl)
    · rfl
    · simp only [cond_true, Tr.bind_ev, regT_ev (stepT_ev hc hr fl ops.toList)]
      show _ = (match regL (step E m.call m.round ops.toList) ops.toList fr st with | some (fr', st') => some (Exit.normal, fr', st') | none => none)
      cases regL (step E m.call m.round ops.toList) ops.toList fr st <;> rfl
  · rename_i id ops
    cases ops.toList.any (openO fl)
    · rfl
    · simp only [cond_true, Tr.bind_ev, drawT_ev (stepT_ev hc hr fl ops.toList)]
      show _ = (match drawA E (stepV E m.call m.round ops.toList) ops.toList fr st with | some (fr', st') => some (Exit.normal, fr', st') | none => none)
      cases drawA E (stepV E m.call m.round ops.toList) ops.toList fr st <;> rfl
  · rename_i a b
    simp only [Tr.bind_ev, hx]
    show _ = (match m.ex ro a fr st with | some (.normal, fr', st') => m.ex ro b fr' st' | r => r)
    cases m.ex ro a fr st with
    | none => rfl
    | some r =>
      obtain ⟨e, fr', st'⟩ := r
      cases e <;> first | exact hx _ _ _ _ _ | rfl
  · rename_i x tc ec
    show _ = (match evA fr x with | some (.bool v) => bif v then m.ex ro tc fr st else m.ex ro ec fr st | _ => none)
    cases evA fr x with
    | none => rfl
    | some v =>
      cases v <;> simp only <;> first | rfl | skip
      rename_i v
      cases v <;> exact hx _ _ _ _ _
  · rename_i id body
    cases memN id fl.l
    · simp only [cond_false, Tr.bind_ev, hx]
      show _ = (match m.ex ro body fr st with | some (Exit.exit i, fr', st') => bif Nat.beq i id then some (Exit.normal, fr', st') else some (Exit.exit i, fr', st') | r => r)
      cases m.ex ro body fr st with
      | none => rfl
      | some r =>
        obtain ⟨e, fr', st'⟩ := r
        cases e <;> simp only <;> first | rfl | skip
        rename_i i
        cases Nat.beq i id <;> rfl
    · simp only [cond_true]
      show (match execF E (drawA E) m.ex m.call m.round ro (.block id body) fr st with | some y => (Tr.ret (some y)).ev | none => none) = _
      cases execF E (drawA E) m.ex m.call m.round ro (.block id body) fr st <;> rfl
  · rename_i body
    split
    · rfl
    · rename_i hn
      simp only [Tr.bind_ev, loopT_ev (fun fr st => hx fl ro body fr st)]
      show _ = (match leftHas body with | some _ => (match loopM E m.call m.round m.ex ro body 1000 fr st with | some (.normal, _, _) => none | r => r) | none => (match loopN (m.ex ro body) 24 fr st with | some (.normal, _, _) => none | r => r))
      rw [hn]
      simp only
      cases loopN (m.ex ro body) 24 fr st with
      | none => rfl
      | some r =>
        obtain ⟨e, fr', st'⟩ := r
        cases e <;> rfl
  · rfl

theorem TM_ev (E : Env) (sum : CallT) (fls : List (Nat × Fl)) (rf : Fl) : ∀ n, (∀ fl ro c fr st, ((TM E sum fls rf n).ex fl ro c fr st).ev = (M E (drawA E) sum n).ex ro c fr st) ∧
    (∀ f a s, ((TM E sum fls rf n).call f a s).ev = (M E (drawA E) sum n).call f a s) ∧ (∀ f a s, ((TM E sum fls rf n).round f a s).ev = (M E (drawA E) sum n).round f a s)
  | 0 => ⟨fun _ _ _ _ _ => rfl, fun _ _ _ => rfl, fun _ _ _ => rfl⟩
  | n + 1 => by
    obtain ⟨h1, h2, h3⟩ := TM_ev E sum fls rf n
    refine ⟨fun fl ro c fr st => execT_ev h1 h2 h3 fl ro c fr st, fun f a s => ?_, fun f a s => roundFT_ev (h1 rf) f a s⟩
    show (match flOf fls f with | none => Tr.ret ((M E (drawA E) sum (n + 1)).call f a s) | some fl => (match sum f a s with | some r => Tr.ret (some r) | none => callFT E ((TM E sum fls rf n).ex fl) f a s)).ev = _
    cases flOf fls f with
    | none => rfl
    | some fl =>
      show _ = (match sum f a s with | some r => some r | none => callF E (M E (drawA E) sum n).ex f a s)
      cases sum f a s with
      | some r => rfl
      | none => exact callFT_ev (h1 fl) f a s

theorem TM_call {E : Env} {sum : CallT} {fls : List (Nat × Fl)} {rf : Fl} {n : Nat} {f : FuncId} {args : List AV} {st : ASt} {Q : AV × ASt → Prop} (h : ((TM E sum fls rf n).call f args st).all Q) :
    ∃ r, (M E (drawA E) sum n).call f args st = some r ∧ Q r := by
  obtain ⟨a, h1, h2⟩ := Tr.all_ev _ h
  exact ⟨a, by rw [← (TM_ev E sum fls rf n).2.1]; exact h1, h2⟩

theorem TM_ex {E : Env} {sum : CallT} {fls : List (Nat × Fl)} {rf : Fl} {n : Nat} {fl : Fl} {ro : Option Nat} {c : Code} {fr : AFr} {st : ASt} {Q : Exit × AFr × ASt → Prop} (h : ((TM E sum fls rf n).ex fl ro c fr st).all Q) :
    ∃ r, (M E (drawA E) sum n).ex ro c fr st = some r ∧ Q r := by
  obtain ⟨a, h1, h2⟩ := Tr.all_ev _ h
  exact ⟨a, by rw [← (TM_ev E sum fls rf n).1]; exact h1, h2⟩
end
end Go.Ax
