/-
  OWN WORK, TOLD ONCE FOR ALL TEXTS YtmjmpmmonelmmaaAxA TO YtmjmpmmonelmmaaAxU: an abstract machine for the program's text that the kernel can run, and the proof that it is sound: what it answers is what the program answers. No condition.
-/
import Derived.Test.YtmjmpmmonelmmaaAxSf
namespace Go.Ax
noncomputable section
open Go.RowKit

/-! ### What is to be shown of a run that asks, told explicitly -/
/-- a test: both ways -/
def ifB (b : Bool) (A B : Prop) : Prop := @Bool.rec (fun _ => Prop) B A b

theorem ifB_mk {b : Bool} {A B : Prop} (h : b = true → A) (g : b = false → B) : ifB b A B := by
  cases b with
  | true => exact h rfl
  | false => exact g rfl

/-- what the asked operations answer, by ways -/
inductive An where
  | nil
  | v (y : AV × ASt) (k : An)
  | e (y : Exit × AFr × ASt) (k : An)
  | b (t f : An)

def Tr.allY {α : Type} (Q : α → Prop) (t : Tr α) : An → Prop :=
  @Tr.rec α (fun _ => An → Prop) (fun a _ => match a with | some a => Q a | none => False)
    (fun b _ _ it jf y => match y with | .b p q => ifB b (it p) (jf q) | y => ifB b (it y) (jf y))
    (fun x _ ih y => match y with | .v y k => x = some y ∧ ih y k | _ => False)
    (fun x _ ih y => match y with | .e y k => x = some y ∧ ih y k | _ => False)
    (fun _ p _ _ ih y => p ∧ ih y) t

theorem Tr.allY_all {α : Type} {Q : α → Prop} (t : Tr α) : ∀ y, t.allY Q y → t.all Q := by
  induction t with
  | ret a => intro y h; exact h
  | askB b t f it jf =>
    intro y h
    cases y with
    | b p q =>
      refine ⟨fun e => it p ?_, fun e => jf q ?_⟩
      · subst e; exact h
      · subst e; exact h
    | nil => exact ⟨fun e => it .nil (by subst e; exact h), fun e => jf .nil (by subst e; exact h)⟩
    | v y k => exact ⟨fun e => it (.v y k) (by subst e; exact h), fun e => jf (.v y k) (by subst e; exact h)⟩
    | e y k => exact ⟨fun e => it (.e y k) (by subst e; exact h), fun e => jf (.e y k) (by subst e; exact h)⟩
  | askV x k ih => intro y h; cases y with
    | v y k => exact ⟨y, h.1, ih y k h.2⟩
    | _ => exact h.elim
  | askE x k ih => intro y h; cases y with
    | e y k => exact ⟨y, h.1, ih y k h.2⟩
    | _ => exact h.elim
  | askC b p hp t ih => intro y h; exact ⟨h.1, ih y h.2⟩

theorem TM_callY {E : Env} {sum : CallT} {fls : List (Nat × Fl)} {rf : Fl} {n : Nat} {f : FuncId} {args : List AV} {st : ASt} {Q : AV × ASt → Prop} {y : An} (h : ((TM E sum fls rf n).call f args st).allY Q y) :
    ∃ r, (M E (drawA E) sum n).call f args st = some r ∧ Q r := TM_call (Tr.allY_all _ y h)

theorem Trip.runY {P : Program} {kb : Nat} {ro : Option Nat} {fr : AFr} {st : ASt} {Q : Exit × AFr × ASt → Prop} {E : Env} (hE : E.Ok P) {sum : CallT} (hs : CallsOK P sum) {fls : List (Nat × Fl)} {rf : Fl} {n : Nat} {fl : Fl} {c : Code} {y : An}
    (h : ((TM E sum fls rf n).ex fl ro c fr st).allY Q y) : Trip P kb ro c fr st Q :=
  Trip.run hE hs (Tr.allY_all _ y h)
end
end Go.Ax
