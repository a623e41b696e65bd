/-
  OWN WORK, TOLD ONCE FOR ALL TEXTS YtmjmpmmonelmmaaAxA TO YtmjmpmmonelmmaaAxU: an abstract machine for the program's text that the kernel can run, and the proof that it is sound: what it answers is what the program answers. No condition.
-/
import Derived.Test.YtmjmpmmonelmmaaAxT
namespace Go.Ax
noncomputable section
open Go.RowKit

/-! ### A program's tables -/
def tyT (P : Program) (l : List Nat) : T TI := l.foldl (fun t i => match mkTI P i with | some ti => t.set 11 i ti | none => t) .e

theorem tyT_ok {P : Program} (l : List Nat) : ∀ t ti, (tyT P l).get t = some ti → mkTI P t = some ti := by
  have key : ∀ (l : List Nat) (s : T TI), (∀ t ti, s.get t = some ti → mkTI P t = some ti) → ∀ t ti, (l.foldl (fun t i => match mkTI P i with | some ti => t.set 11 i ti | none => t) s).get t = some ti → mkTI P t = some ti := by
    intro l
    induction l with
    | nil => intro s hs t ti h; exact hs t ti h
    | cons i l ih =>
      intro s hs t ti h
      refine ih _ (fun t ti ht => ?_) t ti h
      cases hi : mkTI P i with
      | none => simp only [hi] at ht; exact hs t ti ht
      | some x =>
        simp only [hi, T.get_set] at ht
        by_cases e : t = i
        · subst e; simp at ht; rw [hi, ht]
        · simp only [e, if_false] at ht; exact hs t ti ht
  exact key l .e (fun t ti h => by simp [T.get_e] at h)

def fnT (l : List (Nat × Func)) : T Func := l.foldl (fun t p => t.set 11 p.1 p.2) .e

structure FnOK (P : Program) (f : Nat) (fn : Func) : Prop where
  at_ : P.funcs[f]? = some fn
  call : ∀ args w, (callFunc f args).run P w = .ok (.enter f args) w

def AllFn (P : Program) : List (Nat × Func) → Prop
  | [] => True
  | p :: ps => FnOK P p.1 p.2 ∧ AllFn P ps

theorem fnT_ok {P : Program} {l : List (Nat × Func)} (h : AllFn P l) : ∀ f fn, (fnT l).get f = some fn → FnOK P f fn := by
  have key : ∀ (l : List (Nat × Func)), AllFn P l → ∀ (s : T Func), (∀ f fn, s.get f = some fn → FnOK P f fn) → ∀ f fn, (l.foldl (fun t p => t.set 11 p.1 p.2) s).get f = some fn → FnOK P f fn := by
    intro l
    induction l with
    | nil => intro _ s hs f fn h; exact hs f fn h
    | cons p l ih =>
      intro hl s hs f fn h
      refine ih hl.2 _ (fun f fn hf => ?_) f fn h
      simp only [T.get_set] at hf
      by_cases e : f = p.1
      · subst e; simp at hf; rw [← hf]; exact hl.1
      · simp only [e, if_false] at hf; exact hs f fn hf
  exact key l h .e (fun f fn h => by simp [T.get_e] at h)

def envOf (P : Program) (ts : List Nat) (fs : List (Nat × Func)) : Env := { ty := tyT P ts, fn := fnT fs, ex := .e }

theorem envOf_ok {P : Program} {ts : List Nat} {fs : List (Nat × Func)} (h : AllFn P fs) (hm : P.follows .mixedOrders = true) : Env.Ok P (envOf P ts fs) where
  ty := tyT_ok ts
  fn := fun f fn hf => (fnT_ok h f fn hf).at_
  call := fun f fn hf args w => (fnT_ok h f fn hf).call args w
  ex := fun f g hg => by simp [envOf, T.get_e] at hg
  mixed := hm

def noSum : CallT := fun _ _ _ => none

theorem noSum_ok {P : Program} : CallsOK P noSum := fun _ _ _ _ _ _ h => by simp [noSum] at h

/-- a closed call that the machine answers 'true' -/
theorem closed_true {P : Program} {ts : List Nat} {fs : List (Nat × Func)} (h : AllFn P fs) (hm : P.follows .mixedOrders = true) {n : Nat} {f : FuncId}
    (hr : isTrue ((M (envOf P ts fs) (drawA (envOf P ts fs)) noSum n).call f [] st0) = true) (w : World) (hgl : GlobOK w := by intro _ _ h; cases h) :
    Calls P f #[] w fun e w' => e = .returned (.bool true) ∧ Below w.heap.size w w' :=
  run_true (envOf_ok h hm) (drawA_ok (envOf_ok h hm)) noSum_ok hr w hgl
end
end Go.Ax
