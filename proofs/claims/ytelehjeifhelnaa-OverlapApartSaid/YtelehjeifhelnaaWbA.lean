/-
  OWN WORK, A PART: an abstract machine for the program's text that the kernel can run, and the proof that it is sound: what it answers is what the program answers; contracts of functions by it. No condition.
-/
import Derived.Test.YtelehjeifhelnaaWaF
import Derived.KernelRfl
import Derived.Test.YtelehjeifhelnaaRows
section
namespace Go.Ax
open Go.RowKit
set_option linter.unusedVariables false
abbrev RowsL := List (Nat × Nat × List AV)
def srcR (l : RowsL) : Src := l.map fun q => some (q.1, q.2.1, false)
theorem srcR_at {l : RowsL} {j : Nat} {q : Nat × Nat × List AV} (h : l[j]? = some q) : (srcR l)[j]? = some (some (q.1, q.2.1, false)) := by
  unfold srcR
  rw [List.getElem?_map, h]; rfl
theorem srcR_some {l : RowsL} {j i o : Nat} {w : Bool} (h : (srcR l)[j]? = some (some (i, o, w))) : ∃ q, l[j]? = some q ∧ q.1 = i ∧ q.2.1 = o ∧ w = false := by
  unfold srcR at h
  rw [List.getElem?_map] at h
  cases e : l[j]? with
  | none => rw [e] at h; cases h
  | some q => rw [e] at h; cases h; exact ⟨q, rfl, rfl, rfl, rfl⟩
theorem renL {l : RowsL} {ι : Ren} {j : Nat} {q : Nat × Nat × List AV} {L : Loc} (h : l[j]? = some q) (hL : ι q.1 = some L) : renS (srcR l) ι j = some (L.sh q.2.1) := by
  unfold renS
  rw [srcR_at h]
  simp only [hL]
theorem Call1.read {P : Program} {f : Nat} {args args1 : List AV} {S S1 : ASt} {v : AV} (hrun : AtMem P f args1 S1 v) (hp : refsV 0 v) {l : List (Nat × Nat × List AV)} (hn : S1.next = l.length)
    (ho : ∀ (j : Nat) x, S1.h.get j = some x → ∃ q : Nat × Nat × List AV, l[j]? = some q ∧ x = .cells q.2.2 false)
    (hl : ∀ (j : Nat) (q : Nat × Nat × List AV), l[j]? = some q → q.2.2 ≠ [] ∧ (∀ c, c ∈ q.2.2 → refsV 0 c) ∧ ∃ cs rw, S.h.get q.1 = some (.cells cs rw) ∧ takeL cs q.2.1 q.2.2.length = some q.2.2)
    (ha : ∀ ι args', VRs ι args args' → VRs (renS (srcR l) ι) args1 args') : Call1 P f args S (v, S) := by
  intro B w0 ι w args' hsr hargs
  let B1 : Prot := ⟨fun k => k < w.heap.size, fun k => k < w.heap.size, fun _ => False⟩
  have hren : ∀ {j L}, renS (srcR l) ι j = some L → ∃ (q : Nat × Nat × List AV) (L0 : Loc), l[j]? = some q ∧ ι q.1 = some L0 ∧ L = L0.sh q.2.1 := fun {j L} h => by
    unfold renS at h
    split at h
    · rename_i i o w' hs
      obtain ⟨q, h1, rfl, rfl, _⟩ := srcR_some hs
      split at h
      · rename_i L0 h0
        cases h
        exact ⟨q, L0, h1, h0, rfl⟩
      · cases h
    · cases h
  have hsr1 : SR B1 w (renS (srcR l) ι) S1 w := by
    refine ⟨Keeps.refl _ _, fun k hk => by rcases hk with h | h <;> exact h, fun j x hj hd => ?_, fun j x L hj ho' hL => ?_, fun j L hL => ?_, fun j x hj => ?_, fun j x L hj hd ho' hL => ?_, fun i hi => hi.elim, fun g cs hg => ⟨.inl (hsr.globw g cs hg).lt, hsr.globw g cs hg⟩⟩
    · obtain ⟨q, h1, rfl⟩ := ho j x hj
      obtain ⟨h2, h3, cs, rw, h4, h5⟩ := hl j q h1
      obtain ⟨L, ob, g1, g2, g3⟩ := hsr.obj q.1 _ h4 (by simp)
      exact ⟨L.sh q.2.1, ob, renL h1 g1, g2, row_sub g3 h2 h5 h3⟩
    · obtain ⟨q, h1, rfl⟩ := ho j x hj
      cases ho'
    · obtain ⟨q, L0, h1, _⟩ := hren hL
      rw [hn]; exact (List.getElem?_eq_some_iff.1 h1).1
    · obtain ⟨q, h1, _⟩ := ho j x hj
      rw [hn]; exact (List.getElem?_eq_some_iff.1 h1).1
    · obtain ⟨q, L0, h1, h2, rfl⟩ := hren hL
      obtain ⟨_, _, cs, rw, h4, _⟩ := hl j q h1
      obtain ⟨L, ob, g1, g2, _⟩ := hsr.obj q.1 _ h4 (by simp)
      rw [h2] at g1; cases g1
      exact (Array.getElem?_eq_some_iff.1 g2).1
  obtain ⟨k1, k2⟩ := hrun B1 w (renS (srcR l) ι) w args' (fun _ h => h) hsr1 (ha ι args' hargs)
  refine ⟨k1, k2.mono ?_⟩
  rintro e w' ⟨r, rfl, x, ι', rfl, _, h9, h10⟩
  exact ⟨x, ι, rfl, ι.le_refl, hsr.later ⟨h9.below.os, h9.below.tape, h9.below.output, h9.below.size, fun k hk => h9.below.block k (.inl hk)⟩, h10.noRef hp⟩
theorem VR.rowR {l : RowsL} {ι : Ren} {j i o n : Nat} {c : Cap} {q : Nat × Nat × List AV} {x : Value} (h : l[j]? = some q) (hi : q.1 = i) (hq : q.2.1 = o) (hx : VR ι (.slice (some (i, o)) n c) x) : VR (renS (srcR l) ι) (.slice (some (j, 0)) n (.atl n)) x := by
  subst hi; subst hq
  cases hx with
  | slice _ _ _ c' L _ hL hc hl => exact .slice j 0 _ c' (L.sh q.2.1) (.atl n) (renL h hL) hl hl
theorem VR.ptrR {l : RowsL} {ι : Ren} {j i o : Nat} {q : Nat × Nat × List AV} {x : Value} (h : l[j]? = some q) (hi : q.1 = i) (hq : q.2.1 = o) (hx : VR ι (.ptr (some (i, o))) x) : VR (renS (srcR l) ι) (.ptr (some (j, 0))) x := by
  subst hi; subst hq
  cases hx with
  | ptr _ _ L hL => exact .ptr j 0 (L.sh q.2.1) (renL h hL)
end Go.Ax
end

section
open Go Go.Ax Go.Proofs
namespace Go.Proofs.Ytelehjeifhelnaa.ovp
set_option linter.unusedVariables false
def fl0 : Fl := ⟨[], [], [], []⟩
def nI (n : Nat) : AV := .int .i64 (.ofNat n)
noncomputable def fnsV : List (Nat × Func) := [(65, Try.f65), (44, Try.f44), (45, Try.f45), (66, Try.f66), (49, Try.f49), (37, Try.f37), (38, Try.f38), (64, Try.f64)]
noncomputable def EV : Env := envEx Try.prog [0, 3, 4, 5, 22, 24, 27, 30, 32, 35, 37, 39, 42, 77, 81, 84] fnsV []
def rq (n b : Int) (w y : Bool) : AV := .agg [.int .u64 n, .int .i64 b, .bool w, .bool y]
noncomputable def tH (n b n' b' : Int) (w y w' y' : Bool) : Tr (AV × ASt) := (TM EV noSum [(45, ⟨[], [], [6, 9, 14, 18, 25], []⟩)] fl0 60).call 45 [rq n b w y, rq n' b' w' y'] (mkSt [] 0)
noncomputable def tK (n b n' b' : Int) (w y w' y' : Bool) : Tr (AV × ASt) := (TM EV noSum [(64, ⟨[], [], [6, 10, 15, 19, 26], []⟩)] fl0 60).call 64 [rq n b w y, rq n' b' w' y'] (mkSt [] 0)
noncomputable def c65 : Code := Option.getD Try.f65.body .skip
noncomputable def L65 : Code := lopB (blkB (seqR (seqL (dropC 0 c65))))
noncomputable def fr65 (F : AV) (n i : Nat) : AFr := xFr [(0, .slice (some (0, 0)) n (.atl n)), (1, F), (4, nI 0), (7, nI n), (8, nI i)] 19
noncomputable def smV (q : CallT) : CallT := onlyC [45, 49, 64, 65, 66] q
def clF : AV := .clos 66 [.ptr (some (1, 0))]
def clB : AV := .clos 49 [.ptr (some (1, 0))]
def bdH (r : AV) : AV := .bound 45 [r] []
noncomputable def stF (R : AO) (m : Int) : ASt := mkSt [(0, R), (1, .cells [.int .u64 m] false)] 2
noncomputable def stY (R : AO) (m : Int) : ASt := mkSt [(0, R), (1, .cells [.int .i64 m] false)] 2
noncomputable def stH (R : AO) : ASt := mkSt [(0, R)] 1
-- find: the closure run inside
noncomputable def tF (n i : Nat) (m a b : Int) (w y : Bool) (R : AO) : Tr (Exit × AFr × ASt) := (TM EV noSum [(66, ⟨[], [], [7], []⟩)] fl0 60).ex ⟨[7, 14, 15], [16], [9], []⟩ none L65 (fr65 clF n i) (stF R m)
-- Busy
noncomputable def tB (n i : Nat) (m a b : Int) (w y : Bool) (R : AO) : Tr (Exit × AFr × ASt) := (TM EV noSum [(49, ⟨[], [], [5, 9, 14], []⟩)] fl0 60).ex ⟨[7, 14, 15], [16], [9], []⟩ none L65 (fr65 clB n i) (stY R m)
-- hinders
noncomputable def tC (n i : Nat) (r : AV) (a b : Int) (w y : Bool) (k d : Int) (x z : Bool) (R : AO) : Tr (Exit × AFr × ASt) := (TM EV noSum [(45, ⟨[], [], [6, 9, 14, 18, 25], []⟩)] fl0 60).ex ⟨[7, 14, 15], [16], [9], []⟩ none L65 (fr65 (bdH (rq k d x z)) n i) (stH R)
noncomputable def c37 : Code := Option.getD Try.f37.body .skip
noncomputable def L37 : Code := lopB (blkB (seqR (seqL (dropC 0 c37))))
noncomputable def fr37 (m : Int) (n i : Nat) : AFr := xFr [(0, .slice (some (0, 0)) n (.atl n)), (1, .int .u64 m), (4, nI 0), (5, nI i)] 20
noncomputable def tA (n i : Nat) (m a : Int) (R : AO) : Tr (Exit × AFr × ASt) := (TM EV noSum [] fl0 60).ex ⟨[8, 14, 16], [], [9, 18], []⟩ none L37 (fr37 m n i) (stH R)
noncomputable def c38 : Code := Option.getD Try.f38.body .skip
noncomputable def L38 : Code := lopB (blkB (seqR (seqL (dropC 0 c38))))
noncomputable def fr38 (n k i : Nat) : AFr := xFr [(0, .slice (some (0, 0)) n (.atl n)), (1, nI k), (4, .bool false), (5, nI i)] 20
noncomputable def tE (n k i : Nat) (a b a' b' : Int) (w y w' y' : Bool) (R : AO) : Tr (Exit × AFr × ASt) := (TM EV noSum [(64, ⟨[], [], [6, 10, 15, 19, 26], []⟩)] fl0 60).ex ⟨[13, 14, 17, 18], [19], [8], []⟩ none L38 (fr38 n k i) (stH R)
-- heads and tails
noncomputable def tI (F : AV) (n : Nat) (S : ASt) : Tr (Exit × AFr × ASt) := (TM EV noSum [] fl0 60).ex fl0 none (preC 0 c65) { m := putArgs [.slice (some (0, 0)) n (.atl n), F] 0 .e, n := 19, defs := [] } S
noncomputable def tJ (F : AV) (n : Nat) (S : ASt) : Tr (Exit × AFr × ASt) := (TM EV noSum [] fl0 60).ex fl0 none (seqL (seqL (dropC 0 c65))) (xFr [(0, .slice (some (0, 0)) n (.atl n)), (1, F), (4, nI 0)] 19) S
noncomputable def tZ (F : AV) (n : Nat) (S : ASt) : Tr (Exit × AFr × ASt) := (TM EV noSum [] fl0 60).ex fl0 none (dropC 1 c65) (fr65 F n n) S
noncomputable def tIA (m : Int) (n : Nat) (S : ASt) : Tr (Exit × AFr × ASt) := (TM EV noSum [] fl0 60).ex fl0 none (preC 0 c37) { m := putArgs [.slice (some (0, 0)) n (.atl n), .int .u64 m] 0 .e, n := 20, defs := [] } S
noncomputable def tJA (m : Int) (n : Nat) (S : ASt) : Tr (Exit × AFr × ASt) := (TM EV noSum [] fl0 60).ex fl0 none (seqL (seqL (dropC 0 c37))) (xFr [(0, .slice (some (0, 0)) n (.atl n)), (1, .int .u64 m), (4, nI 0)] 20) S
noncomputable def tZA (m : Int) (n : Nat) (S : ASt) : Tr (Exit × AFr × ASt) := (TM EV noSum [] fl0 60).ex fl0 none (dropC 1 c37) (fr37 m n n) S
noncomputable def tIE (n k : Nat) (S : ASt) : Tr (Exit × AFr × ASt) := (TM EV noSum [] fl0 60).ex fl0 none (preC 0 c38) { m := putArgs [.slice (some (0, 0)) n (.atl n), nI k] 0 .e, n := 20, defs := [] } S
noncomputable def tJE (n k : Nat) (S : ASt) : Tr (Exit × AFr × ASt) := (TM EV noSum [] fl0 60).ex fl0 none (seqL (seqL (dropC 0 c38))) (xFr [(0, .slice (some (0, 0)) n (.atl n)), (1, nI k), (4, .bool false)] 20) S
noncomputable def tZE (n k : Nat) (S : ASt) : Tr (Exit × AFr × ASt) := (TM EV noSum [] fl0 60).ex fl0 none (dropC 1 c38) (fr38 n k k) S
noncomputable def tQ (q : CallT) (A F : AV) (z : Int) (S : ASt) : Tr (AV × ASt) := (TM EV (smV q) [(44, ⟨[7], [], [], []⟩)] fl0 60).call 44 [A, F] S
noncomputable def tN0 (F : AV) (S : ASt) : Tr (AV × ASt) := (TM EV noSum [] fl0 60).call 65 [.slice none 0 (.known 0), F] S
noncomputable def tN1 (F : AV) (S : ASt) : Tr (AV × ASt) := (TM EV noSum [] fl0 60).call 65 [.slice0, F] S
noncomputable def tP0 (m : Int) (S : ASt) : Tr (AV × ASt) := (TM EV noSum [] fl0 60).call 37 [.slice none 0 (.known 0), .int .u64 m] S
noncomputable def tP1 (m : Int) (S : ASt) : Tr (AV × ASt) := (TM EV noSum [] fl0 60).call 37 [.slice0, .int .u64 m] S
noncomputable def vcH_s0 : ASt := mkSt [] 2
theorem vcH (n : Int) (b : Int) (n' : Int) (b' : Int) (w : Bool) (y : Bool) (w' : Bool) (y' : Bool) (Q : AV × ASt → Prop) :
  (ifB w (ifB (ltF b (.ofNat 0)) (Q (.bool true, vcH_s0)) (ifB (ltF b' (.ofNat 0)) (Q (.bool true, vcH_s0)) (ifB (eqF b b') (Q (.bool true, vcH_s0)) (Q (.bool false, vcH_s0))))) (ifB w' (ifB (ltF b (.ofNat 0)) (Q (.bool true, vcH_s0)) (ifB (ltF b' (.ofNat 0)) (Q (.bool true, vcH_s0)) (ifB (eqF b b') (Q (.bool true, vcH_s0)) (Q (.bool false, vcH_s0))))) (Q (.bool false, vcH_s0)))) =
  (tH n b n' b' w y w' y').allY (fun r => Q (r.1, canS [] r.2)) (.b (.b .nil (.b .nil (.b .nil .nil))) (.b (.b .nil (.b .nil (.b .nil .nil))) .nil)) := by kernel_rfl
noncomputable def vcK_s0 : ASt := mkSt [] 2
theorem vcK (n : Int) (b : Int) (n' : Int) (b' : Int) (w : Bool) (y : Bool) (w' : Bool) (y' : Bool) (Q : AV × ASt → Prop) :
  (ifB w (ifB (ltF b (.ofNat 0)) (Q (.bool true, vcK_s0)) (ifB (ltF b' (.ofNat 0)) (Q (.bool true, vcK_s0)) (ifB (eqF b b') (Q (.bool true, vcK_s0)) (Q (.bool false, vcK_s0))))) (ifB w' (ifB (ltF b (.ofNat 0)) (Q (.bool true, vcK_s0)) (ifB (ltF b' (.ofNat 0)) (Q (.bool true, vcK_s0)) (ifB (eqF b b') (Q (.bool true, vcK_s0)) (Q (.bool false, vcK_s0))))) (Q (.bool false, vcK_s0)))) =
  (tK n b n' b' w y w' y').allY (fun r => Q (r.1, canS [] r.2)) (.b (.b .nil (.b .nil (.b .nil .nil))) (.b (.b .nil (.b .nil (.b .nil .nil))) .nil)) := by kernel_rfl
noncomputable def vcF_s0 (m : Int) (R : AO) : ASt := mkSt [(0, R), (1, .cells [.int .u64 m] false)] 2
noncomputable def vcF_s1 (m : Int) (R : AO) : ASt := mkSt [(0, R), (1, .cells [.int .u64 m] false)] 3
theorem vcF (n : Nat) (i : Nat) (m : Int) (a : Int) (b : Int) (w : Bool) (y : Bool) (R : AO) (Q : Exit × AFr × ASt → Prop) (Q2 : Exit × Option AV → Prop) :
  (ifB (ltF (.ofNat i) (.ofNat n)) (still (vcF_s0 m R) (aIndexAddr EV 35 (.slice (some (0, 0)) n (.atl n)) (.int .i64 (.ofNat i))) = some (.ptr (some (0, i * 4)), vcF_s0 m R) ∧ aLoad EV 81 (.ptr (some (0, i * 4))) (vcF_s0 m R) = some (.agg [.int .u64 a, .int .i64 b, .bool w, .bool y], vcF_s0 m R) ∧ ifB (eqF a m) (Q2 (.ret, some (.int .i64 (.ofNat i)))) (Q (.normal, xFr [(0, .slice (some (0, 0)) n (.atl n)), (1, .clos 66 [.ptr (some (1, 0))]), (4, .int .i64 (.ofNat 0)), (7, .int .i64 (.ofNat n)), (8, .int .i64 (wrapF .i64 (.ofNat i + .ofNat 1)))] 19, vcF_s1 m R))) (Q (.exit 0, xFr [(0, .slice (some (0, 0)) n (.atl n)), (1, .clos 66 [.ptr (some (1, 0))]), (4, .int .i64 (.ofNat 0)), (7, .int .i64 (.ofNat n)), (8, .int .i64 (.ofNat i))] 19, vcF_s0 m R))) =
  (tF n i m a b w y R).allY (mixQ EV Try.f65 [0, 1, 4, 7, 8] [0, 1] Q Q2) (.b (.v (.ptr (some (0, i * 4)), vcF_s0 m R) (.v (.agg [.int .u64 a, .int .i64 b, .bool w, .bool y], vcF_s0 m R) (.b .nil .nil))) .nil) := by kernel_rfl
noncomputable def vcB_s0 (m : Int) (R : AO) : ASt := mkSt [(0, R), (1, .cells [.int .i64 m] false)] 2
noncomputable def vcB_s1 (m : Int) (R : AO) : ASt := mkSt [(0, R), (1, .cells [.int .i64 m] false)] 3
theorem vcB (n : Nat) (i : Nat) (m : Int) (a : Int) (b : Int) (w : Bool) (y : Bool) (R : AO) (Q : Exit × AFr × ASt → Prop) (Q2 : Exit × Option AV → Prop) :
  (ifB (ltF (.ofNat i) (.ofNat n)) (still (vcB_s0 m R) (aIndexAddr EV 35 (.slice (some (0, 0)) n (.atl n)) (.int .i64 (.ofNat i))) = some (.ptr (some (0, i * 4)), vcB_s0 m R) ∧ aLoad EV 81 (.ptr (some (0, i * 4))) (vcB_s0 m R) = some (.agg [.int .u64 a, .int .i64 b, .bool w, .bool y], vcB_s0 m R) ∧ ifB y (ifB (ltF b (.ofNat 0)) (Q2 (.ret, some (.int .i64 (.ofNat i)))) (ifB (eqF b m) (Q2 (.ret, some (.int .i64 (.ofNat i)))) (Q (.normal, xFr [(0, .slice (some (0, 0)) n (.atl n)), (1, .clos 49 [.ptr (some (1, 0))]), (4, .int .i64 (.ofNat 0)), (7, .int .i64 (.ofNat n)), (8, .int .i64 (wrapF .i64 (.ofNat i + .ofNat 1)))] 19, vcB_s1 m R)))) (Q (.normal, xFr [(0, .slice (some (0, 0)) n (.atl n)), (1, .clos 49 [.ptr (some (1, 0))]), (4, .int .i64 (.ofNat 0)), (7, .int .i64 (.ofNat n)), (8, .int .i64 (wrapF .i64 (.ofNat i + .ofNat 1)))] 19, vcB_s1 m R))) (Q (.exit 0, xFr [(0, .slice (some (0, 0)) n (.atl n)), (1, .clos 49 [.ptr (some (1, 0))]), (4, .int .i64 (.ofNat 0)), (7, .int .i64 (.ofNat n)), (8, .int .i64 (.ofNat i))] 19, vcB_s0 m R))) =
  (tB n i m a b w y R).allY (mixQ EV Try.f65 [0, 1, 4, 7, 8] [0, 1] Q Q2) (.b (.v (.ptr (some (0, i * 4)), vcB_s0 m R) (.v (.agg [.int .u64 a, .int .i64 b, .bool w, .bool y], vcB_s0 m R) (.b (.b .nil (.b .nil .nil)) .nil))) .nil) := by kernel_rfl
noncomputable def vcC_s0 (R : AO) : ASt := mkSt [(0, R)] 1
noncomputable def vcC_s1 (k : Int) (d : Int) (x : Bool) (z : Bool) (R : AO) : ASt := mkSt [(0, R), (1, .cells [.int .u64 k, .int .i64 d, .bool x, .bool z] true)] 3
theorem vcC (n : Nat) (i : Nat) (r : AV) (a : Int) (b : Int) (w : Bool) (y : Bool) (k : Int) (d : Int) (x : Bool) (z : Bool) (R : AO) (Q : Exit × AFr × ASt → Prop) (Q2 : Exit × Option AV → Prop) :
  (ifB (ltF (.ofNat i) (.ofNat n)) (still (vcC_s0 R) (aIndexAddr EV 35 (.slice (some (0, 0)) n (.atl n)) (.int .i64 (.ofNat i))) = some (.ptr (some (0, i * 4)), vcC_s0 R) ∧ aLoad EV 81 (.ptr (some (0, i * 4))) (vcC_s0 R) = some (.agg [.int .u64 a, .int .i64 b, .bool w, .bool y], vcC_s0 R) ∧ ifB x (ifB (ltF d (.ofNat 0)) (Q2 (.ret, some (.int .i64 (.ofNat i)))) (ifB (ltF b (.ofNat 0)) (Q2 (.ret, some (.int .i64 (.ofNat i)))) (ifB (eqF d b) (Q2 (.ret, some (.int .i64 (.ofNat i)))) (Q (.normal, xFr [(0, .slice (some (0, 0)) n (.atl n)), (1, .bound 45 [.agg [.int .u64 k, .int .i64 d, .bool x, .bool z]] []), (4, .int .i64 (.ofNat 0)), (7, .int .i64 (.ofNat n)), (8, .int .i64 (wrapF .i64 (.ofNat i + .ofNat 1)))] 19, vcC_s1 k d x z R))))) (ifB w (ifB (ltF d (.ofNat 0)) (Q2 (.ret, some (.int .i64 (.ofNat i)))) (ifB (ltF b (.ofNat 0)) (Q2 (.ret, some (.int .i64 (.ofNat i)))) (ifB (eqF d b) (Q2 (.ret, some (.int .i64 (.ofNat i)))) (Q (.normal, xFr [(0, .slice (some (0, 0)) n (.atl n)), (1, .bound 45 [.agg [.int .u64 k, .int .i64 d, .bool x, .bool z]] []), (4, .int .i64 (.ofNat 0)), (7, .int .i64 (.ofNat n)), (8, .int .i64 (wrapF .i64 (.ofNat i + .ofNat 1)))] 19, vcC_s1 k d x z R))))) (Q (.normal, xFr [(0, .slice (some (0, 0)) n (.atl n)), (1, .bound 45 [.agg [.int .u64 k, .int .i64 d, .bool x, .bool z]] []), (4, .int .i64 (.ofNat 0)), (7, .int .i64 (.ofNat n)), (8, .int .i64 (wrapF .i64 (.ofNat i + .ofNat 1)))] 19, vcC_s1 k d x z R)))) (Q (.exit 0, xFr [(0, .slice (some (0, 0)) n (.atl n)), (1, .bound 45 [.agg [.int .u64 k, .int .i64 d, .bool x, .bool z]] []), (4, .int .i64 (.ofNat 0)), (7, .int .i64 (.ofNat n)), (8, .int .i64 (.ofNat i))] 19, vcC_s0 R))) =
  (tC n i r a b w y k d x z R).allY (mixQ EV Try.f65 [0, 1, 4, 7, 8] [0, 1] Q Q2) (.b (.v (.ptr (some (0, i * 4)), vcC_s0 R) (.v (.agg [.int .u64 a, .int .i64 b, .bool w, .bool y], vcC_s0 R) (.b (.b .nil (.b .nil (.b .nil .nil))) (.b (.b .nil (.b .nil (.b .nil .nil))) .nil)))) .nil) := by kernel_rfl
noncomputable def vcA_s0 (R : AO) : ASt := mkSt [(0, R)] 1
theorem vcA (n : Nat) (i : Nat) (m : Int) (a : Int) (R : AO) (Q : Exit × AFr × ASt → Prop) (Q2 : Exit × Option AV → Prop) :
  (aBuiltinM EV .len [27] [.slice (some (0, 0)) n (.atl n)] (vcA_s0 R) = some (.int .i64 (.ofNat n), vcA_s0 R) ∧ ifB (ltF (.ofNat i) (.ofNat n)) (still (vcA_s0 R) (aIndexAddr EV 27 (.slice (some (0, 0)) n (.atl n)) (.int .i64 (.ofNat i))) = some (.ptr (some (0, i * 4)), vcA_s0 R) ∧ aLoad EV 30 (.ptr (some (0, i * 4 + 0))) (vcA_s0 R) = some (.int .u64 a, vcA_s0 R) ∧ ifB (eqF a m) (Q2 (.ret, some (.int .i64 (.ofNat i)))) (Q (.normal, xFr [(0, .slice (some (0, 0)) n (.atl n)), (1, .int .u64 m), (4, .int .i64 (.ofNat 0)), (5, .int .i64 (wrapF .i64 (.ofNat i + .ofNat 1)))] 20, vcA_s0 R))) (Q (.exit 0, xFr [(0, .slice (some (0, 0)) n (.atl n)), (1, .int .u64 m), (4, .int .i64 (.ofNat 0)), (5, .int .i64 (.ofNat i))] 20, vcA_s0 R))) =
  (tA n i m a R).allY (mixQ EV Try.f37 [0, 1, 4, 5] [0, 1] Q Q2) (.v (.int .i64 (.ofNat n), vcA_s0 R) (.b (.v (.ptr (some (0, i * 4)), vcA_s0 R) (.v (.int .u64 a, vcA_s0 R) (.b .nil .nil))) .nil)) := by kernel_rfl
noncomputable def vcE_s0 (R : AO) : ASt := mkSt [(0, R)] 10
noncomputable def vcE_s1 (R : AO) : ASt := mkSt [(0, R)] 12
noncomputable def vcE_s2 (R : AO) : ASt := mkSt [(0, R)] 1
theorem vcE (n : Nat) (k : Nat) (i : Nat) (a : Int) (b : Int) (a' : Int) (b' : Int) (w : Bool) (y : Bool) (w' : Bool) (y' : Bool) (R : AO) (Q : Exit × AFr × ASt → Prop) (Q2 : Exit × Option AV → Prop) :
  (ifB (ltF (.ofNat i) (.ofNat k)) (still (vcE_s0 R) (aIndexAddr EV 27 (.slice (some (0, 0)) n (.atl n)) (.int .i64 (.ofNat i))) = some (.ptr (some (0, i * 4)), vcE_s0 R) ∧ aLoad EV 77 (.ptr (some (0, i * 4))) (vcE_s0 R) = some (.agg [.int .u64 a, .int .i64 b, .bool w, .bool y], vcE_s0 R) ∧ still (vcE_s0 R) (aIndexAddr EV 27 (.slice (some (0, 0)) n (.atl n)) (.int .i64 (.ofNat k))) = some (.ptr (some (0, k * 4)), vcE_s0 R) ∧ aLoad EV 77 (.ptr (some (0, k * 4))) (vcE_s0 R) = some (.agg [.int .u64 a', .int .i64 b', .bool w', .bool y'], vcE_s0 R) ∧ ifB w (ifB (ltF b (.ofNat 0)) (holdsO [] ∧ Q2 (.ret, some (.bool false))) (ifB (ltF b' (.ofNat 0)) (holdsO [] ∧ Q2 (.ret, some (.bool false))) (ifB (eqF b b') (holdsO [] ∧ Q2 (.ret, some (.bool false))) (holdsO [] ∧ Q (.normal, xFr [(0, .slice (some (0, 0)) n (.atl n)), (1, .int .i64 (.ofNat k)), (4, .bool false), (5, .int .i64 (wrapF .i64 (.ofNat i + .ofNat 1)))] 20, vcE_s1 R))))) (ifB w' (ifB (ltF b (.ofNat 0)) (holdsO [] ∧ Q2 (.ret, some (.bool false))) (ifB (ltF b' (.ofNat 0)) (holdsO [] ∧ Q2 (.ret, some (.bool false))) (ifB (eqF b b') (holdsO [] ∧ Q2 (.ret, some (.bool false))) (holdsO [] ∧ Q (.normal, xFr [(0, .slice (some (0, 0)) n (.atl n)), (1, .int .i64 (.ofNat k)), (4, .bool false), (5, .int .i64 (wrapF .i64 (.ofNat i + .ofNat 1)))] 20, vcE_s1 R))))) (holdsO [] ∧ Q (.normal, xFr [(0, .slice (some (0, 0)) n (.atl n)), (1, .int .i64 (.ofNat k)), (4, .bool false), (5, .int .i64 (wrapF .i64 (.ofNat i + .ofNat 1)))] 20, vcE_s1 R)))) (Q (.exit 0, xFr [(0, .slice (some (0, 0)) n (.atl n)), (1, .int .i64 (.ofNat k)), (4, .bool false), (5, .int .i64 (.ofNat i))] 20, vcE_s2 R))) =
  (tE n k i a b a' b' w y w' y' R).allY (mixQ EV Try.f38 [0, 1, 4, 5] [0, 1] Q Q2) (.b (.v (.ptr (some (0, i * 4)), vcE_s0 R) (.v (.agg [.int .u64 a, .int .i64 b, .bool w, .bool y], vcE_s0 R) (.v (.ptr (some (0, k * 4)), vcE_s0 R) (.v (.agg [.int .u64 a', .int .i64 b', .bool w', .bool y'], vcE_s0 R) (.b (.b .nil (.b .nil (.b .nil .nil))) (.b (.b .nil (.b .nil (.b .nil .nil))) .nil)))))) .nil) := by kernel_rfl
theorem vcI (F : AV) (n : Nat) (S : ASt) (Q : Exit × AFr × ASt → Prop) : Q (.normal, xFr [(0, .slice (some (0, 0)) n (.atl n)), (1, F), (4, nI 0)] 19, canS [0, 1] S) = (tI F n S).allY (fun r => Q (canR [0, 1, 4] [0, 1] r)) .nil := by kernel_rfl
theorem vcJ (F : AV) (n : Nat) (S : ASt) (Q : Exit × AFr × ASt → Prop) : Q (.normal, fr65 F n 0, canS [0, 1] S) = (tJ F n S).allY (fun r => Q (canR [0, 1, 4, 7, 8] [0, 1] r)) .nil := by kernel_rfl
theorem vcZ (F : AV) (n : Nat) (S : ASt) (Q : Exit × Option AV → Prop) : Q (.ret, some (.int .i64 (-1))) = (tZ F n S).allY (fun r => Q (r.1, ans (leaveA EV Try.f65 r.2.1 r.2.2))) .nil := by kernel_rfl
theorem vcIA (m : Int) (n : Nat) (S : ASt) (Q : Exit × AFr × ASt → Prop) : Q (.normal, xFr [(0, .slice (some (0, 0)) n (.atl n)), (1, .int .u64 m), (4, nI 0)] 20, canS [0, 1] S) = (tIA m n S).allY (fun r => Q (canR [0, 1, 4] [0, 1] r)) .nil := by kernel_rfl
theorem vcJA (m : Int) (n : Nat) (S : ASt) (Q : Exit × AFr × ASt → Prop) : Q (.normal, fr37 m n 0, canS [0, 1] S) = (tJA m n S).allY (fun r => Q (canR [0, 1, 4, 5] [0, 1] r)) .nil := by kernel_rfl
theorem vcZA (m : Int) (n : Nat) (S : ASt) (Q : Exit × Option AV → Prop) : Q (.ret, some (.int .i64 (-1))) = (tZA m n S).allY (fun r => Q (r.1, ans (leaveA EV Try.f37 r.2.1 r.2.2))) .nil := by kernel_rfl
theorem vcIE (n k : Nat) (S : ASt) (Q : Exit × AFr × ASt → Prop) : Q (.normal, xFr [(0, .slice (some (0, 0)) n (.atl n)), (1, nI k), (4, .bool false)] 20, canS [0, 1] S) = (tIE n k S).allY (fun r => Q (canR [0, 1, 4] [0, 1] r)) .nil := by kernel_rfl
theorem vcJE (n k : Nat) (S : ASt) (Q : Exit × AFr × ASt → Prop) : Q (.normal, fr38 n k 0, canS [0, 1] S) = (tJE n k S).allY (fun r => Q (canR [0, 1, 4, 5] [0, 1] r)) .nil := by kernel_rfl
theorem vcZE (n k : Nat) (S : ASt) (Q : Exit × Option AV → Prop) : Q (.ret, some (.bool true)) = (tZE n k S).allY (fun r => Q (r.1, ans (leaveA EV Try.f38 r.2.1 r.2.2))) .nil := by kernel_rfl
theorem vcQ (q : CallT) (A F : AV) (z : Int) (S : ASt) (Q : AV × ASt → Prop) : ((M EV (drawA EV) (smV q) 56).call 65 [A, F] S = some (.int .i64 z, S) ∧ Q (.bool (!ltF z (.ofNat 0)), S)) = (tQ q A F z S).allY Q (.v (.int .i64 z, S) .nil) := by kernel_rfl
theorem vcN0 (F : AV) (S : ASt) (Q : AV × ASt → Prop) : Q (.int .i64 (-1), S) = (tN0 F S).allY Q .nil := by kernel_rfl
theorem vcN1 (F : AV) (S : ASt) (Q : AV × ASt → Prop) : Q (.int .i64 (-1), S) = (tN1 F S).allY Q .nil := by kernel_rfl
theorem vcP0 (m : Int) (S : ASt) (Q : AV × ASt → Prop) : Q (.int .i64 (-1), S) = (tP0 m S).allY Q .nil := by kernel_rfl
theorem vcP1 (m : Int) (S : ASt) (Q : AV × ASt → Prop) : Q (.int .i64 (-1), S) = (tP1 m S).allY Q .nil := by kernel_rfl
end Go.Proofs.Ytelehjeifhelnaa.ovp
end

section
open Go Go.Ax Go.Proofs
namespace Go.Proofs.Ytelehjeifhelnaa.ovp
set_option linter.unusedVariables false
theorem EVok : Env.Ok Try.prog EV := envEx_ok (xs := []) ⟨⟨Try.func65, Try.call65⟩, ⟨Try.func44, Try.call44⟩, ⟨Try.func45, Try.call45⟩, ⟨Try.func66, Try.call66⟩, ⟨Try.func49, Try.call49⟩, ⟨Try.func37, Try.call37⟩, ⟨Try.func38, Try.call38⟩, ⟨Try.func64, Try.call64⟩, trivial⟩ trivial (by kernel_rfl)
structure RQ where
  num : Int
  blk : Int
  wr : Bool
  way : Bool
def enc4 (r : RQ) : List AV := [.int .u64 r.num, .int .i64 r.blk, .bool r.wr, .bool r.way]
theorem enc4_len (r : RQ) : (enc4 r).length = 4 := rfl
def rowT (l : List RQ) : AO := .cells (l.flatMap enc4) false
theorem enc4_refs {l : List RQ} : ∀ c, c ∈ l.flatMap enc4 → refsV 0 c := fun c hc => by
  obtain ⟨r, _, hc⟩ := List.mem_flatMap.1 hc
  simp only [enc4, List.mem_cons, List.not_mem_nil, or_false] at hc
  rcases hc with rfl | rfl | rfl | rfl <;> simp [refsV]
theorem rowT_came (l : List RQ) : Came (rowT l) := .inr ⟨_, _, rfl, enc4_refs⟩
def idxV (p : RQ → Bool) (l : List RQ) : Int := match l.findIdx? p with
  | some i => .ofNat i
  | none => -1
def findP (m : Int) (r : RQ) : Bool := eqF r.num m
def busyP (m : Int) (r : RQ) : Bool := bif r.way then (bif ltF r.blk (.ofNat 0) then true else eqF r.blk m) else false
def hindB (r o : RQ) : Bool := bif (bif r.wr then true else o.wr) then (bif ltF r.blk (.ofNat 0) then true else bif ltF o.blk (.ofNat 0) then true else eqF r.blk o.blk) else false
theorem tl35 : sliceT EV 35 = some 4 := by kernel_rfl
theorem tl27 : sliceT EV 27 = some 4 := by kernel_rfl
theorem tg81 : aggT EV 81 = some 4 := by kernel_rfl
theorem tg77 : aggT EV 77 = some 4 := by kernel_rfl
section
variable {l : List RQ} {i n : Nat} {r : RQ} {S : ASt}
theorem vidx (hi : i < n) : still S (aIndexAddr EV 35 (.slice (some (0, 0)) n (.atl n)) (.int .i64 (.ofNat i))) = some (.ptr (some (0, i * 4)), S) := by
  have := idx_at (E := EV) (t := 35) (i := 0) (o := 0) (n := n) (c := .atl n) (kd := .i64) tl35 hi
  rw [Nat.zero_add] at this
  exact still_of this
theorem vload (hS : S.h.get 0 = some (rowT l)) (hr : l[i]? = some r) : aLoad EV 81 (.ptr (some (0, i * 4))) S = some (.agg (enc4 r), S) := load_agg tg81 hS (fm_one enc4_len hr)
theorem nlt' {P : Prop} (hi : i < n) (h : ltF (.ofNat i) (.ofNat n) = false) : P := by
  rw [ltF_nn] at h
  exact absurd hi (of_decide_eq_false h)
def QI (kb : Nat) (F : AV) (S : ASt) (p : RQ → Bool) (l : List RQ) (i : Nat) (q : Exit × AFr × ASt) : Prop :=
  (q.1 = .ret ∧ (∃ r, l[i]? = some r ∧ p r = true) ∧ ans (leaveA EV Try.f65 q.2.1 q.2.2) = some (nI i)) ∨ ((∃ r, l[i]? = some r ∧ p r = false) ∧ Stops kb .normal (fr65 F l.length (i + 1)) S q) ∨ (i = l.length ∧ Stops kb (.exit 0) (fr65 F l.length i) S q)
def QZ (F : AV) (p : RQ → Bool) (l : List RQ) (q : Exit × AFr × ASt) : Prop := (q.1 = .normal ∨ q.1 = .ret) ∧ ans (leaveA EV Try.f65 q.2.1 q.2.2) = some (.int .i64 (idxV p l))
theorem idx_found {p : RQ → Bool} {i : Nat} (h0 : ∀ j r, j < i → l[j]? = some r → p r = false) (hr : l[i]? = some r) (hp : p r = true) : idxV p l = .ofNat i := by
  have hi : i < l.length := (List.getElem?_eq_some_iff.1 hr).1
  have e : l.findIdx? p = some i := by
    rw [List.findIdx?_eq_some_iff_getElem]
    refine ⟨hi, ?_, fun j hj => ?_⟩
    · have : l[i] = r := by rw [List.getElem?_eq_getElem hi] at hr; exact Option.some.inj hr
      rw [this]; exact hp
    · have := h0 j _ hj (List.getElem?_eq_getElem (by omega))
      rw [this]; decide
  unfold idxV
  rw [e]
theorem idx_none {p : RQ → Bool} (h0 : ∀ j r, j < l.length → l[j]? = some r → p r = false) : idxV p l = -1 := by
  have e : l.findIdx? p = none := by
    rw [List.findIdx?_eq_none_iff]
    intro x hx
    obtain ⟨j, hj, rfl⟩ := List.getElem_of_mem hx
    exact h0 j _ hj (List.getElem?_eq_getElem hj)
  unfold idxV
  rw [e]
theorem shape65 : dropC 0 c65 = .seq (.seq (seqL (seqL (dropC 0 c65))) (.block 0 (.loop L65))) (dropC 1 c65) := by kernel_rfl
theorem whole65 {kb : Nat} {F : AV} {p : RQ → Bool} (hl : l.length < 4611686018427387904) (hcan : Wk kb (fr65 F l.length 0) (canS [0, 1] S) (fr65 F l.length 0) S) (hcan0 : Wk kb (xFr [(0, .slice (some (0, 0)) l.length (.atl l.length)), (1, F), (4, nI 0)] 19) (canS [0, 1] S) (xFr [(0, .slice (some (0, 0)) l.length (.atl l.length)), (1, F), (4, nI 0)] 19) S)
    (hr : ∀ i, i ≤ l.length → Trip Try.prog kb none L65 (fr65 F l.length i) S (QI kb F S p l i)) : Trip Try.prog kb none c65 { m := putArgs [.slice (some (0, 0)) l.length (.atl l.length), F] 0 .e, n := 19, defs := [] } S (QZ F p l) := by
  refine Trip.preY EVok noSum_ok (k := 0) (kf := [0, 1, 4]) (ko := [0, 1]) (by kernel_rfl) (Q1 := fun q => q = (.normal, xFr [(0, .slice (some (0, 0)) l.length (.atl l.length)), (1, F), (4, nI 0)] 19, canS [0, 1] S)) (Eq.mp (vcI F l.length S (fun q => q = (.normal, xFr [(0, .slice (some (0, 0)) l.length (.atl l.length)), (1, F), (4, nI 0)] 19, canS [0, 1] S))) rfl) ?_ (fun q h1 h2 => absurd (congrArg Prod.fst h2) h1)
  rintro F' S' h
  cases h
  rw [shape65]
  refine Trip.less hcan0 (Trip.seq (R := fun q => (q.1 ≠ .normal ∧ QZ F p l q) ∨ ((∀ j r, j < l.length → l[j]? = some r → p r = false) ∧ Stops kb .normal (fr65 F l.length l.length) S q)) (Trip.seq (R := Stops kb .normal (fr65 F l.length 0) S)
    ((Trip.runY EVok noSum_ok (Eq.mp (vcJ F l.length S (Stops kb .normal (fr65 F l.length 0) S)) ⟨rfl, hcan⟩)).mono fun q hq => Stops.can hq) (fun fr' st' hq => Trip.less hq.2 ?_) (fun e fr' st' hne hq => absurd hq.1 hne)) (fun fr' st' hq => ?_) (fun e fr' st' hne hq => ?_))
  · refine Trip.block (Trip.loop (fun m fr st => ∃ k, k ≤ l.length ∧ m = l.length - k ∧ (∀ j r, j < k → l[j]? = some r → p r = false) ∧ fr = fr65 F l.length k ∧ st = S) ?_ l.length ⟨0, by omega, by omega, fun j r hj => absurd hj (by omega), rfl, rfl⟩)
    rintro m fr st ⟨k, hk, rfl, h0, rfl, rfl⟩
    refine (hr k hk).mono ?_
    rintro ⟨e, fr', st'⟩ (⟨h1, ⟨r, h2, h3⟩, h4⟩ | ⟨⟨r, h2, h3⟩, h4, h5⟩ | ⟨h2, h4, h5⟩)
    · simp only at h1
      subst h1
      refine .inl ⟨by simp, .inr rfl, ?_⟩
      rw [idx_found h0 h2 h3]; exact h4
    · simp only at h4
      subst h4
      have hk2 : k < l.length := (List.getElem?_eq_some_iff.1 h2).1
      refine ⟨l.length - (k + 1), _, _, by omega, h5, k + 1, by omega, rfl, fun j r' hj hr' => ?_, rfl, rfl⟩
      by_cases e : j = k
      · subst e; rw [h2] at hr'; cases hr'; exact h3
      · exact h0 j r' (by omega) hr'
    · simp only at h4
      subst h4
      subst h2
      exact ⟨fun _ => .inr ⟨h0, rfl, h5⟩, fun h => absurd rfl h⟩
  · rcases hq with ⟨h1, _⟩ | ⟨h0, h1, h2⟩
    · exact absurd rfl h1
    · refine Trip.less h2 ((Trip.runY EVok noSum_ok (Eq.mp (vcZ F l.length S (fun q => q = (.ret, some (.int .i64 (-1))))) rfl)).mono fun q hq => ⟨.inr (congrArg Prod.fst hq), ?_⟩)
      rw [idx_none h0]
      exact congrArg Prod.snd hq
  · rcases hq with ⟨_, h1⟩ | ⟨_, h1, _⟩
    · exact h1
    · exact absurd h1 hne
theorem wI {i n : Nat} (hi : i < n) (hn : n < 4611686018427387904) : wrapF .i64 (Int.ofNat i + Int.ofNat 1) = .ofNat (i + 1) := by
  rw [show (Int.ofNat i + Int.ofNat 1) = Int.ofNat (i + 1) from rfl, wrap_nat (by omega)]
theorem heldF {m : Int} (nx : Nat) (hx : nx = 2 ∨ nx = 3) {k : Nat} : Wk 2 (fr65 clF l.length k) (mkSt [(0, rowT l), (1, .cells [.int .u64 m] false)] nx) (fr65 clF l.length k) (stF (rowT l) m) := by
  have hs : StP [0, 1] (mkSt [(0, rowT l), (1, .cells [.int .u64 m] false)] nx) [(0, rowT l), (1, .cells [.int .u64 m] false)] := .came (rowT_came l) rfl (by rcases hx with rfl | rfl <;> kernel_rfl) (.came (.inr ⟨_, _, rfl, fun c hc => by simp only [List.mem_cons, List.not_mem_nil, or_false] at hc; subst hc; simp [refsV]⟩) rfl (by rcases hx with rfl | rfl <;> kernel_rfl) .nil)
  have hf : frE [0, 1] (fr65 clF l.length k) [0, 1, 4, 7, 8] = some [(0, .slice (some (0, 0)) l.length (.atl l.length)), (1, clF), (4, nI 0), (7, nI l.length), (8, nI k)] := by kernel_rfl
  exact Wk.heldX (kb := 2) [0, 1] (by kernel_rfl) (by kernel_rfl) [0, 1, 4, 7, 8] hf hs
def Q1F (l : List RQ) (m : Int) (i : Nat) (q : Exit × AFr × ASt) : Prop := ((∃ r, l[i]? = some r ∧ (findP m) r = false) ∧ Stops 2 .normal (fr65 clF l.length (i + 1)) (stF (rowT l) m) q) ∨ (i = l.length ∧ Stops 2 (.exit 0) (fr65 clF l.length i) (stF (rowT l) m) q)
def Q2F (l : List RQ) (m : Int) (i : Nat) (q : Exit × Option AV) : Prop := q.1 = .ret ∧ (∃ r, l[i]? = some r ∧ (findP m) r = true) ∧ q.2 = some (nI i)
theorem roundF {m : Int} (hl : l.length < 4611686018427387904) {i : Nat} (hi : i ≤ l.length) : Trip Try.prog 2 none L65 (fr65 clF l.length i) (stF (rowT l) m) (QI 2 clF (stF (rowT l) m) (findP m) l i) := by
  have fin : ∀ q : Exit × AFr × ASt, q.1 ≠ .ret → Q1F l m i (canR [0, 1, 4, 7, 8] [0, 1] q) → QI 2 clF (stF (rowT l) m) (findP m) l i q := fun q _ h => .inr (h.imp (fun h => ⟨h.1, h.2.can⟩) (fun h => ⟨h.1, h.2.can⟩))
  have fin2 : ∀ q : Exit × AFr × ASt, q.1 = .ret → Q2F l m i (.ret, ans (leaveA EV Try.f65 q.2.1 q.2.2)) → QI 2 clF (stF (rowT l) m) (findP m) l i q := fun q h1 h => .inl ⟨h1, h.2.1, h.2.2⟩
  by_cases e : i < l.length
  · obtain ⟨r, hr⟩ : ∃ r, l[i]? = some r := ⟨_, List.getElem?_eq_getElem e⟩
    have e1 : wrapF .i64 (Int.ofNat i + Int.ofNat 1) = .ofNat (i + 1) := wI e hl
    refine Trip.runM EVok noSum_ok (Eq.mp (vcF l.length i m r.num r.blk r.wr r.way (rowT l) (Q1F l m i) (Q2F l m i)) (ifB_mk (fun _ => ⟨vidx e, vload (by kernel_rfl) hr, ifB_mk (fun h => ⟨rfl, ⟨r, hr, h⟩, rfl⟩) (fun h => .inl ⟨⟨r, hr, h⟩, rfl, (by rw [e1]; exact heldF 3 (.inr rfl))⟩)⟩) fun h => nlt' e h)) fin2 fin
  · have ek : i = l.length := by omega
    refine Trip.runM EVok noSum_ok (Eq.mp (vcF l.length i m 0 0 false false (rowT l) (Q1F l m i) (Q2F l m i)) (ifB_mk (fun h => ?_) fun _ => .inr ⟨ek, rfl, Wk.refl _ _ _⟩)) fin2 fin
    rw [ltF_nn] at h
    exact absurd (of_decide_eq_true h) e
theorem atF {m : Int} (hl : l.length < 4611686018427387904) : AtMem Try.prog 65 [.slice (some (0, 0)) l.length (.atl l.length), clF] (stF (rowT l) m) (.int .i64 (idxV (findP m) l)) := by
  refine AtMem.of_trip EVok (fn := Try.f65) (by kernel_rfl) (c := c65) (by kernel_rfl) (by kernel_rfl) ?_
  have hfr : ({ m := putArgs [.slice (some (0, 0)) l.length (.atl l.length), clF] 0 .e, n := Try.f65.ntmps, defs := [] } : AFr) = { m := putArgs [.slice (some (0, 0)) l.length (.atl l.length), clF] 0 .e, n := 19, defs := [] } := by kernel_rfl
  rw [hfr]
  exact whole65 hl (by have e : canS [0, 1] (stF (rowT l) m) = (stF (rowT l) m) := by kernel_rfl
                       rw [e]; exact Wk.refl _ _ _) (by have e : canS [0, 1] (stF (rowT l) m) = (stF (rowT l) m) := by kernel_rfl
                                                        rw [e]; exact Wk.refl _ _ _) fun i hi => roundF hl hi
theorem heldB {m : Int} (nx : Nat) (hx : nx = 2 ∨ nx = 3) {k : Nat} : Wk 2 (fr65 clB l.length k) (mkSt [(0, rowT l), (1, .cells [.int .i64 m] false)] nx) (fr65 clB l.length k) (stY (rowT l) m) := by
  have hs : StP [0, 1] (mkSt [(0, rowT l), (1, .cells [.int .i64 m] false)] nx) [(0, rowT l), (1, .cells [.int .i64 m] false)] := .came (rowT_came l) rfl (by rcases hx with rfl | rfl <;> kernel_rfl) (.came (.inr ⟨_, _, rfl, fun c hc => by simp only [List.mem_cons, List.not_mem_nil, or_false] at hc; subst hc; simp [refsV]⟩) rfl (by rcases hx with rfl | rfl <;> kernel_rfl) .nil)
  have hf : frE [0, 1] (fr65 clB l.length k) [0, 1, 4, 7, 8] = some [(0, .slice (some (0, 0)) l.length (.atl l.length)), (1, clB), (4, nI 0), (7, nI l.length), (8, nI k)] := by kernel_rfl
  exact Wk.heldX (kb := 2) [0, 1] (by kernel_rfl) (by kernel_rfl) [0, 1, 4, 7, 8] hf hs
def Q1B (l : List RQ) (m : Int) (i : Nat) (q : Exit × AFr × ASt) : Prop := ((∃ r, l[i]? = some r ∧ (busyP m) r = false) ∧ Stops 2 .normal (fr65 clB l.length (i + 1)) (stY (rowT l) m) q) ∨ (i = l.length ∧ Stops 2 (.exit 0) (fr65 clB l.length i) (stY (rowT l) m) q)
def Q2B (l : List RQ) (m : Int) (i : Nat) (q : Exit × Option AV) : Prop := q.1 = .ret ∧ (∃ r, l[i]? = some r ∧ (busyP m) r = true) ∧ q.2 = some (nI i)
theorem roundB {m : Int} (hl : l.length < 4611686018427387904) {i : Nat} (hi : i ≤ l.length) : Trip Try.prog 2 none L65 (fr65 clB l.length i) (stY (rowT l) m) (QI 2 clB (stY (rowT l) m) (busyP m) l i) := by
  have fin : ∀ q : Exit × AFr × ASt, q.1 ≠ .ret → Q1B l m i (canR [0, 1, 4, 7, 8] [0, 1] q) → QI 2 clB (stY (rowT l) m) (busyP m) l i q := fun q _ h => .inr (h.imp (fun h => ⟨h.1, h.2.can⟩) (fun h => ⟨h.1, h.2.can⟩))
  have fin2 : ∀ q : Exit × AFr × ASt, q.1 = .ret → Q2B l m i (.ret, ans (leaveA EV Try.f65 q.2.1 q.2.2)) → QI 2 clB (stY (rowT l) m) (busyP m) l i q := fun q h1 h => .inl ⟨h1, h.2.1, h.2.2⟩
  by_cases e : i < l.length
  · obtain ⟨r, hr⟩ : ∃ r, l[i]? = some r := ⟨_, List.getElem?_eq_getElem e⟩
    have e1 : wrapF .i64 (Int.ofNat i + Int.ofNat 1) = .ofNat (i + 1) := wI e hl
    refine Trip.runM EVok noSum_ok (Eq.mp (vcB l.length i m r.num r.blk r.wr r.way (rowT l) (Q1B l m i) (Q2B l m i)) (ifB_mk (fun _ => ⟨vidx e, vload (by kernel_rfl) hr, ifB_mk (fun hy => ifB_mk (fun hb => ⟨rfl, ⟨r, hr, by unfold busyP; rw [hy, cond_true, hb, cond_true]⟩, rfl⟩) (fun hb => ifB_mk (fun he => ⟨rfl, ⟨r, hr, by unfold busyP; rw [hy, cond_true, hb, cond_false, he]⟩, rfl⟩) (fun he => .inl ⟨⟨r, hr, by unfold busyP; rw [hy, cond_true, hb, cond_false, he]⟩, rfl, (by rw [e1]; exact heldB 3 (.inr rfl))⟩))) (fun hy => .inl ⟨⟨r, hr, by unfold busyP; rw [hy, cond_false]⟩, rfl, (by rw [e1]; exact heldB 3 (.inr rfl))⟩)⟩) fun h => nlt' e h)) fin2 fin
  · have ek : i = l.length := by omega
    refine Trip.runM EVok noSum_ok (Eq.mp (vcB l.length i m 0 0 false false (rowT l) (Q1B l m i) (Q2B l m i)) (ifB_mk (fun h => ?_) fun _ => .inr ⟨ek, rfl, Wk.refl _ _ _⟩)) fin2 fin
    rw [ltF_nn] at h
    exact absurd (of_decide_eq_true h) e
theorem atB {m : Int} (hl : l.length < 4611686018427387904) : AtMem Try.prog 65 [.slice (some (0, 0)) l.length (.atl l.length), clB] (stY (rowT l) m) (.int .i64 (idxV (busyP m) l)) := by
  refine AtMem.of_trip EVok (fn := Try.f65) (by kernel_rfl) (c := c65) (by kernel_rfl) (by kernel_rfl) ?_
  have hfr : ({ m := putArgs [.slice (some (0, 0)) l.length (.atl l.length), clB] 0 .e, n := Try.f65.ntmps, defs := [] } : AFr) = { m := putArgs [.slice (some (0, 0)) l.length (.atl l.length), clB] 0 .e, n := 19, defs := [] } := by kernel_rfl
  rw [hfr]
  exact whole65 hl (by have e : canS [0, 1] (stY (rowT l) m) = (stY (rowT l) m) := by kernel_rfl
                       rw [e]; exact Wk.refl _ _ _) (by have e : canS [0, 1] (stY (rowT l) m) = (stY (rowT l) m) := by kernel_rfl
                                                        rw [e]; exact Wk.refl _ _ _) fun i hi => roundB hl hi
end
end Go.Proofs.Ytelehjeifhelnaa.ovp
end

section
open Go Go.Ax Go.Proofs
namespace Go.Proofs.Ytelehjeifhelnaa.ovp
set_option linter.unusedVariables false
section
variable {l : List RQ} {i n : Nat} {r : RQ} {S : ASt}
def bd (rr : RQ) : AV := bdH (rq rr.num rr.blk rr.wr rr.way)
theorem enc4_refsK {k : Nat} {l : List RQ} : ∀ c, c ∈ l.flatMap enc4 → refsV k c := fun c hc => by
  obtain ⟨r, _, hc⟩ := List.mem_flatMap.1 hc
  simp only [enc4, List.mem_cons, List.not_mem_nil, or_false] at hc
  rcases hc with rfl | rfl | rfl | rfl <;> simp [refsV]
theorem lkp_refs {k : Nat} : ∀ {l : List (Nat × AV)} {t : Nat}, (∀ p, p ∈ l → refsV k p.2) → refsV k (lkp t l)
  | [], t, _ => by simp [lkp, refsV]
  | x :: xs, t, h => by
    show refsV k (bif Nat.beq x.1 t then x.2 else lkp t xs)
    cases Nat.beq x.1 t with
    | true => exact h x List.mem_cons_self
    | false => exact lkp_refs fun p hp => h p (List.mem_cons_of_mem _ hp)
theorem xshrink {kb k n : Nat} {l : List (Nat × AV)} {st : ASt} (hk : kb ≤ k) (hl : ∀ p, p ∈ l → refsV k p.2) (hs : ∀ i a, st.h.get i = some a → i < k ∧ refsO k a) : Shrinks kb k (xFr l n) st :=
  ⟨hk, rfl, fun t => by
    rw [xFr_get]
    by_cases e : t < n
    · rw [if_pos e]; exact lkp_refs hl
    · rw [if_neg e]; simp [undefA, refsV], hs⟩
theorem heldC {rr : RQ} {k : Nat} {S : ASt} (h0 : S.h.get 0 = some (rowT l)) (hn : S.next ≤ 3) : Wk 1 (fr65 (bd rr) l.length k) S (fr65 (bd rr) l.length k) (stH (rowT l)) := by
  refine Wk.trans (Wk.pick (ls := [(0, rowT l)]) (nx := 3) (fun p hp => by simp only [List.mem_cons, List.not_mem_nil, or_false] at hp; subst hp; exact h0) hn) (Wk.shrink (k := 1) (xshrink (Nat.le_refl _) (fun p hp => ?_) fun i a hi => ?_))
  · simp only [List.mem_cons, List.not_mem_nil, or_false] at hp
    rcases hp with rfl | rfl | rfl | rfl | rfl <;> simp [refsV, bd, bdH, rq, nI]
  · have hg : (mkSt [(0, rowT l)] 3).h.get i = if i = 0 then some (rowT l) else none := by
      show ((T.e : T AO).set D 0 _).get i = _
      rw [T.get_set, T.get_e]
    rw [hg] at hi
    by_cases e : i = 0
    · simp [e] at hi
      subst hi
      exact ⟨by omega, fun c hc => enc4_refsK c hc⟩
    · simp [e] at hi
def Q1C (l : List RQ) (rr : RQ) (i : Nat) (q : Exit × AFr × ASt) : Prop := ((∃ r, l[i]? = some r ∧ hindB rr r = false) ∧ Stops 1 .normal (fr65 (bd rr) l.length (i + 1)) (stH (rowT l)) q) ∨ (i = l.length ∧ Stops 1 (.exit 0) (fr65 (bd rr) l.length i) (stH (rowT l)) q)
def Q2C (l : List RQ) (rr : RQ) (i : Nat) (q : Exit × Option AV) : Prop := q.1 = .ret ∧ (∃ r, l[i]? = some r ∧ hindB rr r = true) ∧ q.2 = some (nI i)
theorem roundC {rr : RQ} (hl : l.length < 4611686018427387904) {i : Nat} (hi : i ≤ l.length) : Trip Try.prog 1 none L65 (fr65 (bd rr) l.length i) (stH (rowT l)) (QI 1 (bd rr) (stH (rowT l)) (hindB rr) l i) := by
  have fin : ∀ q : Exit × AFr × ASt, q.1 ≠ .ret → Q1C l rr i (canR [0, 1, 4, 7, 8] [0, 1] q) → QI 1 (bd rr) (stH (rowT l)) (hindB rr) l i q := fun q _ h => .inr (h.imp (fun h => ⟨h.1, h.2.can⟩) (fun h => ⟨h.1, h.2.can⟩))
  have fin2 : ∀ q : Exit × AFr × ASt, q.1 = .ret → Q2C l rr i (.ret, ans (leaveA EV Try.f65 q.2.1 q.2.2)) → QI 1 (bd rr) (stH (rowT l)) (hindB rr) l i q := fun q h1 h => .inl ⟨h1, h.2.1, h.2.2⟩
  by_cases e : i < l.length
  · obtain ⟨r, hr⟩ : ∃ r, l[i]? = some r := ⟨_, List.getElem?_eq_getElem e⟩
    have e1 : wrapF .i64 (Int.ofNat i + Int.ofNat 1) = .ofNat (i + 1) := wI e hl
    refine Trip.runM EVok noSum_ok (Eq.mp (vcC l.length i undefA r.num r.blk r.wr r.way rr.num rr.blk rr.wr rr.way (rowT l) (Q1C l rr i) (Q2C l rr i)) (ifB_mk (fun _ => ⟨vidx e, vload (by kernel_rfl) hr, ifB_mk (fun hx => ifB_mk (fun hd => ⟨rfl, ⟨r, hr, by unfold hindB; rw [hx, cond_true, cond_true, hd, cond_true]⟩, rfl⟩) (fun hd => ifB_mk (fun hb => ⟨rfl, ⟨r, hr, by unfold hindB; rw [hx, cond_true, cond_true, hd, cond_false, hb, cond_true]⟩, rfl⟩) (fun hb => ifB_mk (fun he => ⟨rfl, ⟨r, hr, by unfold hindB; rw [hx, cond_true, cond_true, hd, cond_false, hb, cond_false, he]⟩, rfl⟩) (fun he => .inl ⟨⟨r, hr, by unfold hindB; rw [hx, cond_true, cond_true, hd, cond_false, hb, cond_false, he]⟩, rfl, (by rw [e1]; exact heldC (by kernel_rfl) (Nat.le_refl 3))⟩)))) (fun hx => ifB_mk (fun hw => ifB_mk (fun hd => ⟨rfl, ⟨r, hr, by unfold hindB; rw [hx, cond_false, hw, cond_true, hd, cond_true]⟩, rfl⟩) (fun hd => ifB_mk (fun hb => ⟨rfl, ⟨r, hr, by unfold hindB; rw [hx, cond_false, hw, cond_true, hd, cond_false, hb, cond_true]⟩, rfl⟩) (fun hb => ifB_mk (fun he => ⟨rfl, ⟨r, hr, by unfold hindB; rw [hx, cond_false, hw, cond_true, hd, cond_false, hb, cond_false, he]⟩, rfl⟩) (fun he => .inl ⟨⟨r, hr, by unfold hindB; rw [hx, cond_false, hw, cond_true, hd, cond_false, hb, cond_false, he]⟩, rfl, (by rw [e1]; exact heldC (by kernel_rfl) (Nat.le_refl 3))⟩)))) (fun hw => .inl ⟨⟨r, hr, by unfold hindB; rw [hx, cond_false, hw, cond_false]⟩, rfl, (by rw [e1]; exact heldC (by kernel_rfl) (Nat.le_refl 3))⟩))⟩) fun h => nlt' e h)) fin2 fin
  · have ek : i = l.length := by omega
    refine Trip.runM EVok noSum_ok (Eq.mp (vcC l.length i undefA 0 0 false false rr.num rr.blk rr.wr rr.way (rowT l) (Q1C l rr i) (Q2C l rr i)) (ifB_mk (fun h => ?_) fun _ => .inr ⟨ek, rfl, Wk.refl _ _ _⟩)) fin2 fin
    rw [ltF_nn] at h
    exact absurd (of_decide_eq_true h) e
theorem atC {rr : RQ} (hl : l.length < 4611686018427387904) : AtMem Try.prog 65 [.slice (some (0, 0)) l.length (.atl l.length), bd rr] (stH (rowT l)) (.int .i64 (idxV (hindB rr) l)) := by
  refine AtMem.of_trip EVok (fn := Try.f65) (by kernel_rfl) (c := c65) (by kernel_rfl) (by kernel_rfl) ?_
  have hfr : ({ m := putArgs [.slice (some (0, 0)) l.length (.atl l.length), bd rr] 0 .e, n := Try.f65.ntmps, defs := [] } : AFr) = { m := putArgs [.slice (some (0, 0)) l.length (.atl l.length), bd rr] 0 .e, n := 19, defs := [] } := by kernel_rfl
  rw [hfr]
  have e : canS [0, 1] (stH (rowT l)) = stH (rowT l) := by kernel_rfl
  exact whole65 hl (by rw [e]; exact Wk.refl _ _ _) (by rw [e]; exact Wk.refl _ _ _) fun i hi => roundC hl hi
theorem aidx {S : ASt} (hi : i < n) : still S (aIndexAddr EV 27 (.slice (some (0, 0)) n (.atl n)) (.int .i64 (.ofNat i))) = some (.ptr (some (0, i * 4)), S) := by
  have := idx_at (E := EV) (t := 27) (i := 0) (o := 0) (n := n) (c := .atl n) (kd := .i64) tl27 hi
  rw [Nat.zero_add] at this
  exact still_of this
theorem tc30 : cellT EV 30 = true := by kernel_rfl
theorem aload0 (hS : S.h.get 0 = some (rowT l)) (hr : l[i]? = some r) : aLoad EV 30 (.ptr (some (0, i * 4 + 0))) S = some (.int .u64 r.num, S) := load_at tc30 hS (fm_get enc4_len hr rfl)
theorem aload (hS : S.h.get 0 = some (rowT l)) (hr : l[i]? = some r) : aLoad EV 77 (.ptr (some (0, i * 4))) S = some (.agg (enc4 r), S) := load_agg tg77 hS (fm_one enc4_len hr)
def QA (m : Int) (S : ASt) (p : RQ → Bool) (l : List RQ) (i : Nat) (q : Exit × AFr × ASt) : Prop :=
  (q.1 = .ret ∧ (∃ r, l[i]? = some r ∧ p r = true) ∧ ans (leaveA EV Try.f37 q.2.1 q.2.2) = some (nI i)) ∨ ((∃ r, l[i]? = some r ∧ p r = false) ∧ Stops 1 .normal (fr37 m l.length (i + 1)) S q) ∨ (i = l.length ∧ Stops 1 (.exit 0) (fr37 m l.length i) S q)
def QAZ (p : RQ → Bool) (l : List RQ) (q : Exit × AFr × ASt) : Prop := (q.1 = .normal ∨ q.1 = .ret) ∧ ans (leaveA EV Try.f37 q.2.1 q.2.2) = some (.int .i64 (idxV p l))
def QA1 (l : List RQ) (m : Int) (i : Nat) (q : Exit × AFr × ASt) : Prop := ((∃ r, l[i]? = some r ∧ findP m r = false) ∧ Stops 1 .normal (fr37 m l.length (i + 1)) (stH (rowT l)) q) ∨ (i = l.length ∧ Stops 1 (.exit 0) (fr37 m l.length i) (stH (rowT l)) q)
def QA2 (l : List RQ) (m : Int) (i : Nat) (q : Exit × Option AV) : Prop := q.1 = .ret ∧ (∃ r, l[i]? = some r ∧ findP m r = true) ∧ q.2 = some (nI i)
theorem alen {S : ASt} : aBuiltinM EV .len [27] [.slice (some (0, 0)) n (.atl n)] S = some (nI n, S) := by kernel_rfl
theorem roundA {m : Int} (hl : l.length < 4611686018427387904) {i : Nat} (hi : i ≤ l.length) : Trip Try.prog 1 none L37 (fr37 m l.length i) (stH (rowT l)) (QA m (stH (rowT l)) (findP m) l i) := by
  have fin : ∀ q : Exit × AFr × ASt, q.1 ≠ .ret → QA1 l m i (canR [0, 1, 4, 5] [0, 1] q) → QA m (stH (rowT l)) (findP m) l i q := fun q _ h => .inr (h.imp (fun h => ⟨h.1, h.2.can⟩) (fun h => ⟨h.1, h.2.can⟩))
  have fin2 : ∀ q : Exit × AFr × ASt, q.1 = .ret → QA2 l m i (.ret, ans (leaveA EV Try.f37 q.2.1 q.2.2)) → QA m (stH (rowT l)) (findP m) l i q := fun q h1 h => .inl ⟨h1, h.2.1, h.2.2⟩
  by_cases e : i < l.length
  · obtain ⟨r, hr⟩ : ∃ r, l[i]? = some r := ⟨_, List.getElem?_eq_getElem e⟩
    have e1 : wrapF .i64 (Int.ofNat i + Int.ofNat 1) = .ofNat (i + 1) := wI e hl
    refine Trip.runM EVok noSum_ok (Eq.mp (vcA l.length i m r.num (rowT l) (QA1 l m i) (QA2 l m i)) ⟨alen, ifB_mk (fun _ => ⟨aidx e, aload0 (by kernel_rfl) hr, ifB_mk (fun h => ⟨rfl, ⟨r, hr, h⟩, rfl⟩) (fun h => .inl ⟨⟨r, hr, h⟩, rfl, (by rw [e1]; exact Wk.refl _ _ _)⟩)⟩) fun h => nlt' e h⟩) fin2 fin
  · have ek : i = l.length := by omega
    refine Trip.runM EVok noSum_ok (Eq.mp (vcA l.length i m 0 (rowT l) (QA1 l m i) (QA2 l m i)) ⟨alen, ifB_mk (fun h => ?_) fun _ => .inr ⟨ek, rfl, Wk.refl _ _ _⟩⟩) fin2 fin
    rw [ltF_nn] at h
    exact absurd (of_decide_eq_true h) e
theorem shape37 : dropC 0 c37 = .seq (.seq (seqL (seqL (dropC 0 c37))) (.block 0 (.loop L37))) (dropC 1 c37) := by kernel_rfl
theorem atA {m : Int} (hl : l.length < 4611686018427387904) : AtMem Try.prog 37 [.slice (some (0, 0)) l.length (.atl l.length), .int .u64 m] (stH (rowT l)) (.int .i64 (idxV (findP m) l)) := by
  refine AtMem.of_trip EVok (fn := Try.f37) (by kernel_rfl) (c := c37) (by kernel_rfl) (by kernel_rfl) ?_
  have hfr : ({ m := putArgs [.slice (some (0, 0)) l.length (.atl l.length), .int .u64 m] 0 .e, n := Try.f37.ntmps, defs := [] } : AFr) = { m := putArgs [.slice (some (0, 0)) l.length (.atl l.length), .int .u64 m] 0 .e, n := 20, defs := [] } := by kernel_rfl
  rw [hfr]
  have ec : canS [0, 1] (stH (rowT l)) = stH (rowT l) := by kernel_rfl
  refine Trip.preY EVok noSum_ok (k := 0) (kf := [0, 1, 4]) (ko := [0, 1]) (by kernel_rfl) (Q1 := fun q => q = (.normal, xFr [(0, .slice (some (0, 0)) l.length (.atl l.length)), (1, .int .u64 m), (4, nI 0)] 20, canS [0, 1] (stH (rowT l)))) (Eq.mp (vcIA m l.length (stH (rowT l)) (fun q => q = (.normal, xFr [(0, .slice (some (0, 0)) l.length (.atl l.length)), (1, .int .u64 m), (4, nI 0)] 20, canS [0, 1] (stH (rowT l))))) rfl) ?_ (fun q h1 h2 => absurd (congrArg Prod.fst h2) h1)
  rintro F' S' h
  cases h
  rw [shape37, ec]
  refine Trip.seq (R := fun q => (q.1 ≠ .normal ∧ QAZ (findP m) l q) ∨ ((∀ j r, j < l.length → l[j]? = some r → findP m r = false) ∧ Stops 1 .normal (fr37 m l.length l.length) (stH (rowT l)) q)) (Trip.seq (R := Stops 1 .normal (fr37 m l.length 0) (stH (rowT l)))
    ((Trip.runY EVok noSum_ok (Eq.mp (vcJA m l.length (stH (rowT l)) (Stops 1 .normal (fr37 m l.length 0) (stH (rowT l)))) ⟨rfl, (by rw [ec]; exact Wk.refl _ _ _)⟩)).mono fun q hq => Stops.can hq) (fun fr' st' hq => Trip.less hq.2 ?_) (fun e fr' st' hne hq => absurd hq.1 hne)) (fun fr' st' hq => ?_) (fun e fr' st' hne hq => ?_)
  · refine Trip.block (Trip.loop (fun μ fr st => ∃ k, k ≤ l.length ∧ μ = l.length - k ∧ (∀ j r, j < k → l[j]? = some r → findP m r = false) ∧ fr = fr37 m l.length k ∧ st = stH (rowT l)) ?_ l.length ⟨0, by omega, by omega, fun j r hj => absurd hj (by omega), rfl, rfl⟩)
    rintro μ fr st ⟨k, hk, rfl, h0, rfl, rfl⟩
    refine (roundA hl hk).mono ?_
    rintro ⟨e, fr', st'⟩ (⟨h1, ⟨r, h2, h3⟩, h4⟩ | ⟨⟨r, h2, h3⟩, h4, h5⟩ | ⟨h2, h4, h5⟩)
    · simp only at h1
      subst h1
      refine .inl ⟨by simp, .inr rfl, ?_⟩
      rw [idx_found h0 h2 h3]; exact h4
    · simp only at h4
      subst h4
      have hk2 : k < l.length := (List.getElem?_eq_some_iff.1 h2).1
      refine ⟨l.length - (k + 1), _, _, by omega, h5, k + 1, by omega, rfl, fun j r' hj hr' => ?_, rfl, rfl⟩
      by_cases e : j = k
      · subst e; rw [h2] at hr'; cases hr'; exact h3
      · exact h0 j r' (by omega) hr'
    · simp only at h4
      subst h4
      subst h2
      exact ⟨fun _ => .inr ⟨h0, rfl, h5⟩, fun h => absurd rfl h⟩
  · rcases hq with ⟨h1, _⟩ | ⟨h0, h1, h2⟩
    · exact absurd rfl h1
    · refine Trip.less h2 ((Trip.runY EVok noSum_ok (Eq.mp (vcZA m l.length (stH (rowT l)) (fun q => q = (.ret, some (.int .i64 (-1))))) rfl)).mono fun q hq => ⟨.inr (congrArg Prod.fst hq), ?_⟩)
      rw [idx_none h0]
      exact congrArg Prod.snd hq
  · rcases hq with ⟨_, h1⟩ | ⟨_, h1, _⟩
    · exact h1
    · exact absurd h1 hne
end
end Go.Proofs.Ytelehjeifhelnaa.ovp
end

section
open Go Go.Ax Go.Proofs
namespace Go.Proofs.Ytelehjeifhelnaa.ovp
set_option linter.unusedVariables false
section
variable {l : List RQ} {i n k : Nat} {r rk : RQ} {S : ASt}
def freeV (p : RQ → Bool) (l : List RQ) (k : Nat) : Bool := (l.take k).all fun r => !p r
theorem free_not {p : RQ → Bool} (hi : i < k) (hr : l[i]? = some r) (hp : p r = true) : freeV p l k = false := by
  unfold freeV
  rw [List.all_eq_false]
  refine ⟨r, ?_, by rw [hp]; decide⟩
  refine List.mem_of_getElem? (i := i) ?_
  rw [List.getElem?_take, if_pos hi]; exact hr
theorem free_all {p : RQ → Bool} (h0 : ∀ j r, j < k → l[j]? = some r → p r = false) : freeV p l k = true := by
  unfold freeV
  rw [List.all_eq_true]
  intro x hx
  obtain ⟨j, hj, e⟩ := List.getElem_of_mem hx
  have hj2 : j < k := by rw [List.length_take] at hj; omega
  have : l[j]? = some x := by
    have h2 : (l.take k)[j]? = some x := by rw [List.getElem?_eq_getElem hj, e]
    rw [List.getElem?_take, if_pos hj2] at h2; exact h2
  rw [h0 j x hj2 this]; rfl
theorem heldE (h0 : S.h.get 0 = some (rowT l)) (hn : S.next ≤ 12) : Wk 1 (fr38 l.length k i) S (fr38 l.length k i) (stH (rowT l)) := by
  refine Wk.trans (Wk.pick (ls := [(0, rowT l)]) (nx := 12) (fun p hp => by simp only [List.mem_cons, List.not_mem_nil, or_false] at hp; subst hp; exact h0) hn) (Wk.shrink (k := 1) (xshrink (Nat.le_refl _) (fun p hp => ?_) fun i a hi => ?_))
  · simp only [List.mem_cons, List.not_mem_nil, or_false] at hp
    rcases hp with rfl | rfl | rfl | rfl <;> simp [refsV, nI]
  · have hg : (mkSt [(0, rowT l)] 12).h.get i = if i = 0 then some (rowT l) else none := by
      show ((T.e : T AO).set D 0 _).get i = _
      rw [T.get_set, T.get_e]
    rw [hg] at hi
    by_cases e : i = 0
    · simp [e] at hi
      subst hi
      exact ⟨by omega, fun c hc => enc4_refsK c hc⟩
    · simp [e] at hi
def QE (S : ASt) (p : RQ → Bool) (l : List RQ) (k i : Nat) (q : Exit × AFr × ASt) : Prop :=
  (q.1 = .ret ∧ (i < k ∧ ∃ r, l[i]? = some r ∧ p r = true) ∧ ans (leaveA EV Try.f38 q.2.1 q.2.2) = some (.bool false)) ∨ ((i < k ∧ ∃ r, l[i]? = some r ∧ p r = false) ∧ Stops 1 .normal (fr38 l.length k (i + 1)) S q) ∨ (i = k ∧ Stops 1 (.exit 0) (fr38 l.length k i) S q)
def QE1 (l : List RQ) (p : RQ → Bool) (k i : Nat) (q : Exit × AFr × ASt) : Prop := ((i < k ∧ ∃ r, l[i]? = some r ∧ p r = false) ∧ Stops 1 .normal (fr38 l.length k (i + 1)) (stH (rowT l)) q) ∨ (i = k ∧ Stops 1 (.exit 0) (fr38 l.length k i) (stH (rowT l)) q)
def QE2 (l : List RQ) (p : RQ → Bool) (k i : Nat) (q : Exit × Option AV) : Prop := q.1 = .ret ∧ (i < k ∧ ∃ r, l[i]? = some r ∧ p r = true) ∧ q.2 = some (.bool false)
def QEZ (p : RQ → Bool) (l : List RQ) (k : Nat) (q : Exit × AFr × ASt) : Prop := (q.1 = .normal ∨ q.1 = .ret) ∧ ans (leaveA EV Try.f38 q.2.1 q.2.2) = some (.bool (freeV p l k))
theorem roundE (hl : l.length < 4611686018427387904) (hk : l[k]? = some rk) {i : Nat} (hi : i ≤ k) : Trip Try.prog 1 none L38 (fr38 l.length k i) (stH (rowT l)) (QE (stH (rowT l)) (fun r => hindB r rk) l k i) := by
  have hkl : k < l.length := (List.getElem?_eq_some_iff.1 hk).1
  have fin : ∀ q : Exit × AFr × ASt, q.1 ≠ .ret → QE1 l (fun r => hindB r rk) k i (canR [0, 1, 4, 5] [0, 1] q) → QE (stH (rowT l)) (fun r => hindB r rk) l k i q := fun q _ h => .inr (h.imp (fun h => ⟨h.1, h.2.can⟩) (fun h => ⟨h.1, h.2.can⟩))
  have fin2 : ∀ q : Exit × AFr × ASt, q.1 = .ret → QE2 l (fun r => hindB r rk) k i (.ret, ans (leaveA EV Try.f38 q.2.1 q.2.2)) → QE (stH (rowT l)) (fun r => hindB r rk) l k i q := fun q h1 h => .inl ⟨h1, h.2.1, h.2.2⟩
  by_cases e : i < k
  · obtain ⟨r, hr⟩ : ∃ r, l[i]? = some r := ⟨_, List.getElem?_eq_getElem (by omega)⟩
    have e1 : wrapF .i64 (Int.ofNat i + Int.ofNat 1) = .ofNat (i + 1) := wI e (by omega)
    refine Trip.runM EVok noSum_ok (Eq.mp (vcE l.length k i r.num r.blk rk.num rk.blk r.wr r.way rk.wr rk.way (rowT l) (QE1 l (fun r => hindB r rk) k i) (QE2 l (fun r => hindB r rk) k i)) (ifB_mk (fun _ => ⟨aidx (by omega), aload (by kernel_rfl) hr, aidx hkl, aload (by kernel_rfl) hk, ifB_mk (fun hx => ifB_mk (fun hd => ⟨trivial, rfl, ⟨e, r, hr, by show hindB r rk = true; unfold hindB; rw [hx, cond_true, cond_true, hd, cond_true]⟩, rfl⟩) (fun hd => ifB_mk (fun hb => ⟨trivial, rfl, ⟨e, r, hr, by show hindB r rk = true; unfold hindB; rw [hx, cond_true, cond_true, hd, cond_false, hb, cond_true]⟩, rfl⟩) (fun hb => ifB_mk (fun he => ⟨trivial, rfl, ⟨e, r, hr, by show hindB r rk = true; unfold hindB; rw [hx, cond_true, cond_true, hd, cond_false, hb, cond_false, he]⟩, rfl⟩) (fun he => ⟨trivial, .inl ⟨⟨e, r, hr, by show hindB r rk = false; unfold hindB; rw [hx, cond_true, cond_true, hd, cond_false, hb, cond_false, he]⟩, rfl, (by rw [e1]; exact heldE (by kernel_rfl) (Nat.le_refl 12))⟩⟩)))) (fun hx => ifB_mk (fun hw => ifB_mk (fun hd => ⟨trivial, rfl, ⟨e, r, hr, by show hindB r rk = true; unfold hindB; rw [hx, cond_false, hw, cond_true, hd, cond_true]⟩, rfl⟩) (fun hd => ifB_mk (fun hb => ⟨trivial, rfl, ⟨e, r, hr, by show hindB r rk = true; unfold hindB; rw [hx, cond_false, hw, cond_true, hd, cond_false, hb, cond_true]⟩, rfl⟩) (fun hb => ifB_mk (fun he => ⟨trivial, rfl, ⟨e, r, hr, by show hindB r rk = true; unfold hindB; rw [hx, cond_false, hw, cond_true, hd, cond_false, hb, cond_false, he]⟩, rfl⟩) (fun he => ⟨trivial, .inl ⟨⟨e, r, hr, by show hindB r rk = false; unfold hindB; rw [hx, cond_false, hw, cond_true, hd, cond_false, hb, cond_false, he]⟩, rfl, (by rw [e1]; exact heldE (by kernel_rfl) (Nat.le_refl 12))⟩⟩)))) (fun hw => ⟨trivial, .inl ⟨⟨e, r, hr, by show hindB r rk = false; unfold hindB; rw [hx, cond_false, hw, cond_false]⟩, rfl, (by rw [e1]; exact heldE (by kernel_rfl) (Nat.le_refl 12))⟩⟩))⟩) fun h => nlt' e h)) fin2 fin
  · have ek : i = k := by omega
    refine Trip.runM EVok noSum_ok (Eq.mp (vcE l.length k i 0 0 0 0 false false false false (rowT l) (QE1 l (fun r => hindB r rk) k i) (QE2 l (fun r => hindB r rk) k i)) (ifB_mk (fun h => ?_) fun _ => .inr ⟨ek, rfl, Wk.refl _ _ _⟩)) fin2 fin
    rw [ltF_nn] at h
    exact absurd (of_decide_eq_true h) e
theorem shape38 : dropC 0 c38 = .seq (.seq (seqL (seqL (dropC 0 c38))) (.block 0 (.loop L38))) (dropC 1 c38) := by kernel_rfl
theorem atE (hl : l.length < 4611686018427387904) (hk : l[k]? = some rk) : AtMem Try.prog 38 [.slice (some (0, 0)) l.length (.atl l.length), nI k] (stH (rowT l)) (.bool (freeV (fun r => hindB r rk) l k)) := by
  refine AtMem.of_trip EVok (fn := Try.f38) (by kernel_rfl) (c := c38) (by kernel_rfl) (by kernel_rfl) ?_
  have hfr : ({ m := putArgs [.slice (some (0, 0)) l.length (.atl l.length), nI k] 0 .e, n := Try.f38.ntmps, defs := [] } : AFr) = { m := putArgs [.slice (some (0, 0)) l.length (.atl l.length), nI k] 0 .e, n := 20, defs := [] } := by kernel_rfl
  rw [hfr]
  have ec : canS [0, 1] (stH (rowT l)) = stH (rowT l) := by kernel_rfl
  refine Trip.preY EVok noSum_ok (k := 0) (kf := [0, 1, 4]) (ko := [0, 1]) (by kernel_rfl) (Q1 := fun q => q = (.normal, xFr [(0, .slice (some (0, 0)) l.length (.atl l.length)), (1, nI k), (4, .bool false)] 20, canS [0, 1] (stH (rowT l)))) (Eq.mp (vcIE l.length k (stH (rowT l)) (fun q => q = (.normal, xFr [(0, .slice (some (0, 0)) l.length (.atl l.length)), (1, nI k), (4, .bool false)] 20, canS [0, 1] (stH (rowT l))))) rfl) ?_ (fun q h1 h2 => absurd (congrArg Prod.fst h2) h1)
  rintro F' S' h
  cases h
  rw [shape38, ec]
  refine Trip.seq (R := fun q => (q.1 ≠ .normal ∧ QEZ (fun r => hindB r rk) l k q) ∨ ((∀ j r, j < k → l[j]? = some r → hindB r rk = false) ∧ Stops 1 .normal (fr38 l.length k k) (stH (rowT l)) q)) (Trip.seq (R := Stops 1 .normal (fr38 l.length k 0) (stH (rowT l)))
    ((Trip.runY EVok noSum_ok (Eq.mp (vcJE l.length k (stH (rowT l)) (Stops 1 .normal (fr38 l.length k 0) (stH (rowT l)))) ⟨rfl, (by rw [ec]; exact Wk.refl _ _ _)⟩)).mono fun q hq => Stops.can hq) (fun fr' st' hq => Trip.less hq.2 ?_) (fun e fr' st' hne hq => absurd hq.1 hne)) (fun fr' st' hq => ?_) (fun e fr' st' hne hq => ?_)
  · refine Trip.block (Trip.loop (fun μ fr st => ∃ i, i ≤ k ∧ μ = k - i ∧ (∀ j r, j < i → l[j]? = some r → hindB r rk = false) ∧ fr = fr38 l.length k i ∧ st = stH (rowT l)) ?_ k ⟨0, by omega, by omega, fun j r hj => absurd hj (by omega), rfl, rfl⟩)
    rintro μ fr st ⟨i, hi, rfl, h0, rfl, rfl⟩
    refine (roundE hl hk hi).mono ?_
    rintro ⟨e, fr', st'⟩ (⟨h1, ⟨hik, r, h2, h3⟩, h4⟩ | ⟨⟨hik, r, h2, h3⟩, h4, h5⟩ | ⟨h2, h4, h5⟩)
    · simp only at h1
      subst h1
      refine .inl ⟨by simp, .inr rfl, ?_⟩
      rw [free_not hik h2 h3]; exact h4
    · simp only at h4
      subst h4
      refine ⟨k - (i + 1), _, _, by omega, h5, i + 1, by omega, rfl, fun j r' hj hr' => ?_, rfl, rfl⟩
      by_cases e : j = i
      · subst e; rw [h2] at hr'; cases hr'; exact h3
      · exact h0 j r' (by omega) hr'
    · simp only at h4
      subst h4
      subst h2
      exact ⟨fun _ => .inr ⟨h0, rfl, h5⟩, fun h => absurd rfl h⟩
  · rcases hq with ⟨h1, _⟩ | ⟨h0, h1, h2⟩
    · exact absurd rfl h1
    · refine Trip.less h2 ((Trip.runY EVok noSum_ok (Eq.mp (vcZE l.length k (stH (rowT l)) (fun q => q = (.ret, some (.bool true)))) rfl)).mono fun q hq => ⟨.inr (congrArg Prod.fst hq), ?_⟩)
      rw [free_all h0]
      exact congrArg Prod.snd hq
  · rcases hq with ⟨_, h1⟩ | ⟨_, h1, _⟩
    · exact h1
    · exact absurd h1 hne
end
end Go.Proofs.Ytelehjeifhelnaa.ovp
end

section
open Go Go.Ax Go.Proofs
namespace Go.Proofs.Ytelehjeifhelnaa.ovp
set_option linter.unusedVariables false
section
variable {l : List RQ} {S : ASt} {cs : List AV} {rw rw' : Bool} {r b : Nat} {c : Cap}
def RowIn (S : ASt) (r : Nat) (l : List RQ) : Prop := ∃ cs rw, S.h.get r = some (.cells cs rw) ∧ takeL cs 0 (l.flatMap enc4).length = some (l.flatMap enc4)
theorem fm_ne (h : l ≠ []) : l.flatMap enc4 ≠ [] := fun e => by
  have := congrArg List.length e
  rw [fm_len enc4_len] at this
  cases l with
  | nil => exact h rfl
  | cons x l => simp at this
theorem get1 {o : AO} {j : Nat} {x : AO} (h : (mkSt [(0, o)] 1).h.get j = some x) : j = 0 ∧ x = o := by
  have hg : (mkSt [(0, o)] 1).h.get j = if j = 0 then some o else none := by
    show ((T.e : T AO).set D 0 _).get j = _
    rw [T.get_set, T.get_e]
  rw [hg] at h
  by_cases e : j = 0
  · simp [e] at h; exact ⟨e, h.symm⟩
  · simp [e] at h
theorem get2 {o o1 : AO} {j : Nat} {x : AO} (h : (mkSt [(0, o), (1, o1)] 2).h.get j = some x) : (j = 0 ∧ x = o) ∨ (j = 1 ∧ x = o1) := by
  have hg : (mkSt [(0, o), (1, o1)] 2).h.get j = if j = 1 then some o1 else if j = 0 then some o else none := by
    show (((T.e : T AO).set D 0 _).set D 1 _).get j = _
    rw [T.get_set, T.get_set, T.get_e]
  rw [hg] at h
  by_cases e1 : j = 1
  · simp [e1] at h; exact .inr ⟨e1, h.symm⟩
  · by_cases e : j = 0
    · simp [e] at h; exact .inl ⟨e, h.symm⟩
    · simp [e1, e] at h
theorem read1 {f : Nat} {v F : AV} (h0 : l ≠ []) (hr : RowIn S r l) (hF : refsV 0 F) (hrun : AtMem Try.prog f [.slice (some (0, 0)) l.length (.atl l.length), F] (stH (rowT l)) v) (hp : refsV 0 v) :
    Call1 Try.prog f [.slice (some (r, 0)) l.length c, F] S (v, S) := by
  obtain ⟨cs, rw, g1, g2⟩ := hr
  refine Call1.read hrun hp (l := [(r, 0, l.flatMap enc4)]) rfl (fun j x hj => ?_) (fun j q hq => ?_) fun ι args' hv => ⟨hv.size, fun k y y' hy hy' => ?_⟩
  · obtain ⟨rfl, rfl⟩ := get1 hj
    exact ⟨_, rfl, rfl⟩
  · match j, hq with
    | 0, hq => simp at hq; subst hq; exact ⟨fm_ne h0, enc4_refs, cs, rw, g1, g2⟩
    | j + 1, hq => simp at hq
  · match k, hy with
    | 0, hy => simp at hy; subst hy; exact VR.rowR (l := [(r, 0, l.flatMap enc4)]) rfl rfl rfl (hv.at_ 0 _ y' rfl hy')
    | 1, hy => simp at hy; subst hy; exact (hv.at_ 1 _ y' rfl hy').noRef hF
    | k + 2, hy => simp at hy
theorem bd_refs {rr : RQ} : refsV 0 (bd rr) := by simp [refsV, bd, bdH, rq]
theorem at_any {m : Int} (hl : l.length < 4611686018427387904) (h0 : l ≠ []) (hr : RowIn S r l) : Call1 Try.prog 37 [.slice (some (r, 0)) l.length c, .int .u64 m] S (.int .i64 (idxV (findP m) l), S) :=
  read1 h0 hr (by simp [refsV]) (atA hl) (by simp [refsV])
theorem free_any {k : Nat} {rk : RQ} (hl : l.length < 4611686018427387904) (hk : l[k]? = some rk) (hr : RowIn S r l) : Call1 Try.prog 38 [.slice (some (r, 0)) l.length c, nI k] S (.bool (freeV (fun r => hindB r rk) l k), S) :=
  read1 (fun e => by rw [e] at hk; simp at hk) hr (by simp [refsV, nI]) (atE hl hk) (by simp [refsV])
theorem idx_any {rr : RQ} (hl : l.length < 4611686018427387904) (h0 : l ≠ []) (hr : RowIn S r l) : Call1 Try.prog 65 [.slice (some (r, 0)) l.length c, bd rr] S (.int .i64 (idxV (hindB rr) l), S) :=
  read1 h0 hr bd_refs (atC hl) (by simp [refsV])
theorem idx_any_neg {p : RQ → Bool} : (!ltF (idxV p l) (.ofNat 0)) = l.any p := by
  cases h : l.any p with
  | true =>
    rw [List.any_eq_true] at h
    obtain ⟨x, hx, hp⟩ := h
    have : ∃ i, l.findIdx? p = some i := by
      cases e : l.findIdx? p with
      | some i => exact ⟨i, rfl⟩
      | none =>
        rw [List.findIdx?_eq_none_iff] at e
        rw [e x hx] at hp; cases hp
    obtain ⟨i, hi⟩ := this
    unfold idxV
    rw [hi]
    show (!ltF (.ofNat i) (.ofNat 0)) = true
    rw [ltF_nn]; simp
  | false =>
    rw [List.any_eq_false] at h
    have e : l.findIdx? p = none := by
      rw [List.findIdx?_eq_none_iff]
      intro x hx
      have := h x hx
      simpa using this
    unfold idxV
    rw [e]; rfl
theorem cont_any {rr : RQ} (hl : l.length < 4611686018427387904) (h0 : l ≠ []) (hr : RowIn S r l) : Call1 Try.prog 44 [.slice (some (r, 0)) l.length c, bd rr] S (.bool (l.any (hindB rr)), S) := by
  refine read1 h0 hr bd_refs ?_ (by simp [refsV])
  have hc : Call1 Try.prog 65 [.slice (some (0, 0)) l.length (.atl l.length), bd rr] (stH (rowT l)) (.int .i64 (idxV (hindB rr) l), stH (rowT l)) :=
    idx_any hl h0 ⟨l.flatMap enc4, false, by kernel_rfl, by
      have := fm_all (enc := enc4) enc4_len (l := l)
      rw [fm_len enc4_len]; exact this⟩
  have hq : CallsOK Try.prog (smV (tabC [(65, [.slice (some (0, 0)) l.length (.atl l.length), bd rr], stH (rowT l), (.int .i64 (idxV (hindB rr) l), stH (rowT l)))])) := onlyC_ok (tabC_ok fun e he => by
    simp only [List.mem_cons, List.not_mem_nil, or_false] at he
    subst he; exact hc)
  exact AtMem.of_tm EVok hq (Eq.mp (vcQ (tabC _) _ (bd rr) (idxV (hindB rr) l) (stH (rowT l)) (fun q => q.1 = .bool (l.any (hindB rr)))) ⟨call_at (onlyC_at rfl (tabC_hd ..)), by rw [idx_any_neg]⟩)
theorem find_any {m : Int} (hl : l.length < 4611686018427387904) (h0 : l ≠ []) (hr : RowIn S r l) (hb : S.h.get b = some (.cells [.int .u64 m] rw')) :
    Call1 Try.prog 65 [.slice (some (r, 0)) l.length c, .clos 66 [.ptr (some (b, 0))]] S (.int .i64 (idxV (findP m) l), S) := by
  obtain ⟨cs, rw, g1, g2⟩ := hr
  refine Call1.read (atF (l := l) (m := m) hl) (by simp [refsV]) (l := [(r, 0, l.flatMap enc4), (b, 0, [.int .u64 m])]) rfl (fun j x hj => ?_) (fun j q hq => ?_) fun ι args' hv => ⟨hv.size, fun k y y' hy hy' => ?_⟩
  · rcases get2 hj with ⟨rfl, rfl⟩ | ⟨rfl, rfl⟩
    · exact ⟨_, rfl, rfl⟩
    · exact ⟨_, rfl, rfl⟩
  · match j, hq with
    | 0, hq => simp at hq; subst hq; exact ⟨fm_ne h0, enc4_refs, cs, rw, g1, g2⟩
    | 1, hq => simp at hq; subst hq; exact ⟨by simp, by simp [refsV], _, _, hb, by kernel_rfl⟩
    | j + 2, hq => simp at hq
  · match k, hy with
    | 0, hy => simp at hy; subst hy; exact VR.rowR (l := [(r, 0, l.flatMap enc4), (b, 0, [.int .u64 m])]) (j := 0) rfl rfl rfl (hv.at_ 0 _ y' rfl hy')
    | 1, hy =>
      simp at hy; subst hy
      cases hv.at_ 1 _ y' rfl hy' with
      | clos f ds ds' hs h =>
        refine .clos _ _ _ hs fun i x x' hx hx' => ?_
        match i, hx with
        | 0, hx => simp at hx; subst hx; exact VR.ptrR (l := [(r, 0, l.flatMap enc4), (b, 0, [.int .u64 m])]) (j := 1) rfl rfl rfl (h 0 _ x' rfl hx')
        | i + 1, hx => simp at hx
    | k + 2, hy => simp at hy
end
end Go.Proofs.Ytelehjeifhelnaa.ovp
end
