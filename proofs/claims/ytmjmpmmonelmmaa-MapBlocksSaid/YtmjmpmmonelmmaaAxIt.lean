/-
  OWN WORK, TOLD ONCE FOR ALL TEXTS YtmjmpmmonelmmaaAxA TO YtmjmpmmonelmmaaAxU: an abstract machine for the program's text that the kernel can run, and the proof that it is sound: what it answers is what the program answers. No condition.
-/
import Derived.Test.YtmjmpmmonelmmaaAxZ
namespace Go.Ax
noncomputable section
open Go.RowKit

/-! ### A loop, in pieces -/
/-- so many rounds -/
def it (f : AFr → ASt → Option (Exit × AFr × ASt)) : Nat → AFr → ASt → Option (Exit × AFr × ASt)
  | 0, fr, st => some (.normal, fr, st)
  | k + 1, fr, st =>
    match f fr st with
    | some (.normal, fr', st') => it f k fr' st'
    | r => r

theorem it_add (f : AFr → ASt → Option (Exit × AFr × ASt)) : ∀ (a b : Nat) (fr : AFr) (st : ASt), it f (a + b) fr st = match it f a fr st with | some (.normal, fr', st') => it f b fr' st' | r => r
  | 0, b, fr, st => by simp [it]
  | a + 1, b, fr, st => by
    have e : a + 1 + b = (a + b) + 1 := by omega
    rw [e]
    simp only [it]
    cases h : f fr st with
    | none => rfl
    | some r =>
      obtain ⟨e, fr', st'⟩ := r
      cases e <;> first | exact it_add f a b fr' st' | rfl

theorem loopN_it (f : AFr → ASt → Option (Exit × AFr × ASt)) : ∀ (d : Nat) (fr : AFr) (st : ASt), loopN f d fr st = it f (2 ^ d) fr st
  | 0, fr, st => by
    simp only [loopN, Nat.pow_zero, it]
    cases h : f fr st with
    | none => rfl
    | some r => obtain ⟨e, fr', st'⟩ := r; cases e <;> rfl
  | d + 1, fr, st => by
    have e : 2 ^ (d + 1) = 2 ^ d + 2 ^ d := by rw [Nat.pow_succ]; omega
    rw [e, it_add]
    simp only [loopN, loopN_it f d]
    cases h : it f (2 ^ d) fr st with
    | none => rfl
    | some r =>
      obtain ⟨e, fr', st'⟩ := r
      cases e <;> rfl

/-- from here the rounds come to that -/
def Comes (f : AFr → ASt → Option (Exit × AFr × ASt)) (n : Nat) (fr : AFr) (st : ASt) (r : Exit × AFr × ASt) : Prop := ∃ k, k ≤ n ∧ it f k fr st = some r

theorem comes_last {f : AFr → ASt → Option (Exit × AFr × ASt)} {n : Nat} {fr : AFr} {st : ASt} {r : Exit × AFr × ASt} (h : it f n fr st = some r) : Comes f n fr st r := ⟨n, Nat.le_refl _, h⟩

theorem comes_step {f : AFr → ASt → Option (Exit × AFr × ASt)} {a b : Nat} {fr fr' : AFr} {st st' : ASt} {r : Exit × AFr × ASt} (h : it f a fr st = some (.normal, fr', st')) (h' : Comes f b fr' st' r) : Comes f (a + b) fr st r := by
  obtain ⟨k, hk, hr⟩ := h'
  exact ⟨a + k, by omega, by rw [it_add, h]; exact hr⟩

theorem comes_loop {f : AFr → ASt → Option (Exit × AFr × ASt)} {n : Nat} {fr : AFr} {st : ASt} {r : Exit × AFr × ASt} (h : Comes f n fr st r) (hn : n ≤ 2 ^ 24) (hr : r.1 ≠ .normal) : loopN f 24 fr st = some r := by
  obtain ⟨k, hk, hit⟩ := h
  rw [loopN_it, show 2 ^ 24 = k + (2 ^ 24 - k) by omega, it_add, hit]
  obtain ⟨e, fr', st'⟩ := r
  cases e <;> first | exact absurd rfl hr | rfl

/-! ### Code, piece by piece -/
def seqL : Code → Code
  | .seq a _ => a
  | c => c
def seqR : Code → Code
  | .seq _ b => b
  | c => c
def blkB : Code → Code
  | .block _ b => b
  | c => c
def lopB : Code → Code
  | .loop b => b
  | c => c

section
variable {E : Env} {draw : DrawT} {sum : CallT} {n : Nat} {ro : Option Nat} {fr fr1 : AFr} {st st1 : ASt} {r : Exit × AFr × ASt}

theorem ex_seq {a b : Code} (h : (M E draw sum n).ex ro a fr st = some (.normal, fr1, st1)) (h' : (M E draw sum n).ex ro b fr1 st1 = some r) : (M E draw sum (n + 1)).ex ro (.seq a b) fr st = some r := by
  show execF E draw (M E draw sum n).ex (M E draw sum n).call (M E draw sum n).round ro (.seq a b) fr st = _
  rw [execF_seq, h]; exact h'

theorem ex_loop {b : Code} {k : Nat} (hl : leftHas b = none) (h : Comes ((M E draw sum n).ex ro b) k fr st r) (hk : k ≤ 2 ^ 24) (hr : r.1 ≠ .normal) : (M E draw sum (n + 1)).ex ro (.loop b) fr st = some r := by
  show (match leftHas b with | some _ => (match loopM E (M E draw sum n).call (M E draw sum n).round (M E draw sum n).ex ro b 1000 fr st with | some (.normal, _, _) => none | r => r) | none => (match loopN ((M E draw sum n).ex ro b) 24 fr st with | some (.normal, _, _) => none | r => r)) = _
  rw [hl]
  simp only
  rw [comes_loop h hk hr]
  obtain ⟨e, fr', st'⟩ := r
  cases e <;> first | exact absurd rfl hr | rfl

theorem ex_block {b : Code} {id : Nat} (h : (M E draw sum n).ex ro b fr st = some (.exit id, fr1, st1)) : (M E draw sum (n + 1)).ex ro (.block id b) fr st = some (.normal, fr1, st1) := by
  show execF E draw (M E draw sum n).ex (M E draw sum n).call (M E draw sum n).round ro (.block id b) fr st = _
  rw [execF_block, h]
  simp

theorem call_of {f : Nat} {fn : Func} {c : Code} {args : List AV} {v : AV} {st2 : ASt} (hs : sum f args st = none) (h1 : E.fn.get f = some fn) (h2 : fn.body = some c) (h3 : Nat.ble args.length fn.ntmps = true)
    (h4 : (M E draw sum n).ex none c { m := putArgs args 0 .e, n := fn.ntmps, defs := [] } st = some (.ret, fr1, st1)) (h5 : leaveA E fn fr1 st1 = some (v, st2)) :
    (M E draw sum (n + 1)).call f args st = some (v, st2) := by
  show (match sum f args st with | some r => some r | none => callF E (M E draw sum n).ex f args st) = _
  rw [hs]
  simp only [callF, h1, h2, h3, cond_true, h4, h5]
end

/-- a frame, a memory, by their places -/
def mkFr (l : List (Nat × AV)) (n : Nat) (ds : List Nat) : AFr := { m := l.foldl (fun t p => t.set 11 p.1 p.2) .e, n := n, defs := ds }
def mkSt (l : List (Nat × AO)) (n : Nat) : ASt := { h := l.foldl (fun t p => t.set D p.1 p.2) .e, next := n }
end
end Go.Ax
