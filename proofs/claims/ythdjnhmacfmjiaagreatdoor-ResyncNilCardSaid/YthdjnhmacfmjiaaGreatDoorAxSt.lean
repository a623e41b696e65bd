/-
  OWN WORK, TOLD ONCE FOR ALL TEXTS YthdjnhmacfmjiaaGreatDoorAxA TO YthdjnhmacfmjiaaGreatDoorAxU: an abstract machine for the program's text that the kernel can run, and the proof that it is sound: what it answers is what the program answers. No condition.
-/
import Derived.Test.YthdjnhmacfmjiaaGreatDoorAxSs
namespace Go.Ax
noncomputable section
open Go.RowKit

/-! ### sha.Sum out of a table -/
def lookT : List (List Nat × List Nat) → List Nat → Option (List Nat)
  | [], _ => none
  | p :: ps, bs => bif lEq p.1 bs then some p.2 else lookT ps bs

theorem lookT_ok : ∀ {tab : List (List Nat × List Nat)} {bs h : List Nat}, lookT tab bs = some h → (bs, h) ∈ tab
  | [], bs, h, e => by cases e
  | p :: ps, bs, h, e => by
    unfold lookT at e
    cases hb : lEq p.1 bs
    · rw [hb, cond_false] at e
      exact List.mem_cons_of_mem _ (lookT_ok e)
    · rw [hb, cond_true] at e
      simp only [Option.some.injEq] at e
      rw [lEq_eq] at hb
      have : p.1 = bs := by simpa using hb
      subst this; subst e
      exact List.mem_cons_self

def hashV (h : List Nat) : AV := .agg (h.map fun x => .int .u8 (.ofNat x))

def sumTab (fs : Nat) (tab : List (List Nat × List Nat)) : CallT := fun fn args st =>
  bif Nat.beq fs fn then
    match args with
    | [.slice (some (i, o)) len _] =>
      match st.h.get i with
      | some (.cells cs _) =>
        match takeL cs o len with
        | some l =>
          match bytesN l with
          | some bs => (match lookT tab bs with | some h => some (hashV h, st) | none => none)
          | none => none
        | none => none
      | _ => none
    | _ => none
  else none

/-- a row of the table, reckoned -/
structure TabOK (ns : List Nat) (p : List Nat × List Nat) : Prop where
  len : memN p.1.length ns = true
  eq : outI ((foldF (chunks ((p.1.length + 72) / 64) (p.1 ++ padTail p.1.length)) shaS0).forceS fun s => s) = hashV p.2

def AllTab (ns : List Nat) : List (List Nat × List Nat) → Prop
  | [] => True
  | p :: ps => TabOK ns p ∧ AllTab ns ps

theorem AllTab_at {ns : List Nat} : ∀ {tab : List (List Nat × List Nat)}, AllTab ns tab → ∀ p, p ∈ tab → TabOK ns p
  | [], _, p, h => by cases h
  | x :: xs, h, p, hp => by
    rcases List.mem_cons.1 hp with e | hp
    · subst e; exact h.1
    · exact AllTab_at h.2 p hp

theorem sumTab_ok {P : Program} {fs : Nat} {ns : List Nat} (hs : CallsOK P (sumSum fs ns)) {tab : List (List Nat × List Nat)} (ht : AllTab ns tab) : CallsOK P (sumTab fs tab) := by
  intro B w0 fn args st r h
  refine hs B w0 fn args st r ?_
  unfold sumTab at h
  unfold sumSum
  cases hf : Nat.beq fs fn
  · simp [hf] at h
  simp only [hf, cond_true] at h ⊢
  split at h
  rotate_left
  · simp at h
  rename_i i o len cap
  split at h
  rotate_left
  · simp at h
  rename_i cs rw hi
  split at h
  rotate_left
  · simp at h
  rename_i l hl
  split at h
  rotate_left
  · simp at h
  rename_i bs hbs
  split at h
  rotate_left
  · simp at h
  rename_i hh hlk
  simp only [Option.some.injEq] at h
  have hll := (takeL_ok hl).1
  have hb := bytesN_eq hbs
  have hlen : bs.length = len := by rw [hb] at hll; simpa using hll
  obtain ⟨h1, h2⟩ := AllTab_at ht _ (lookT_ok hlk)
  simp only at h1 h2
  rw [hlen] at h1
  simp only [h1, cond_true, hi, hl, hbs]
  rw [S8.forceS_eq] at h2 ⊢
  rw [h2, h]
end
end Go.Ax
