/-
PROVED HERE: 'Rows.UuidTreeSaid': for every row of numbers the call of the law's function returns true, and the row reads as it did. No condition.
  THE WALK is a run of the function's text in an abstract machine (the texts YtidmijpfoodkoaaAxA to YtidmijpfoodkoaaAxFm show that it is sound), with the row, the tree and the two lines open: each piece between two loops by one reckoning of the kernel ('vc..'), joined by invariants; Contains, Compare, above and shared by contracts of their own. THE PLAIN LAW: each line's elder ones are a chain up from its current one in the tree of draws ('Pre', 'abv_pre', 'want_ok').
-/
import Derived.KernelRfl
import Derived.Test.YtidmijpfoodkoaaRows
import Derived.Test.YtidmijpfoodkoaaAxFm
import Derived.WalkKit
import Derived.ProofKit
import Derived.OpenShut
import Derived.Below
import Derived.WideKeyArgs
import Derived.ShutString
import Derived.ChangeOld
import Derived.Deep.SlicePairs
import Derived.Deep.Grids
set_option linter.unusedVariables false
section
namespace Go.Proofs.Ytidmijpfoodkoaa.Ut
/-- the parents, by number -/
def par (t : List Nat) (x : Nat) : Nat := t.getD x 0
/-- a chain up -/
def Pre (t : List Nat) : Nat → List Nat → Prop
  | _, [] => True
  | q, x :: xs => par t q = x ∧ 0 < x ∧ Pre t x xs
/-- each one's parent is an earlier one -/
def Tree (t : List Nat) : Prop := 2 ≤ t.length ∧ par t 0 = 0 ∧ ∀ x, 0 < x → x < t.length → par t x < x
theorem par_app {t : List Nat} {c x : Nat} (h : x < t.length) : par (t ++ [c]) x = par t x := by
  unfold par
  simp [List.getD_eq_getElem?_getD, List.getElem?_append_left h]
theorem par_new {t : List Nat} {c : Nat} : par (t ++ [c]) t.length = c := by
  unfold par
  simp [List.getD_eq_getElem?_getD]
theorem Tree.app {t : List Nat} (h : Tree t) {c : Nat} (hc : c < t.length) : Tree (t ++ [c]) := by
  obtain ⟨h1, h2, h3⟩ := h
  refine ⟨by simp; omega, by rw [par_app (by omega)]; exact h2, fun x h4 h5 => ?_⟩
  simp at h5
  by_cases hx : x < t.length
  · rw [par_app hx]; exact h3 x h4 hx
  · have : x = t.length := by omega
    subst this
    rw [par_new]; exact hc
theorem Pre.app {t : List Nat} (h : Tree t) {c : Nat} : ∀ {e q}, q < t.length → Pre t q e → Pre (t ++ [c]) q e
  | [], q, _, _ => trivial
  | x :: xs, q, hq, hp => by
    obtain ⟨p1, p2, p3⟩ := hp
    refine ⟨by rw [par_app hq]; exact p1, p2, Pre.app h (q := x) ?_ p3⟩
    rw [← p1]
    by_cases h0 : q = 0
    · subst h0; rw [h.2.1]; omega
    · have := h.2.2 q (by omega) hq; omega
theorem Pre.take {t : List Nat} : ∀ {e q} (n : Nat), Pre t q e → Pre t q (e.take n)
  | [], q, n, _ => by simp [Pre]
  | x :: xs, q, 0, _ => by simp [Pre]
  | x :: xs, q, n + 1, hp => ⟨hp.1, hp.2.1, Pre.take n hp.2.2⟩
theorem Pre.lt {t : List Nat} (h : Tree t) : ∀ {e q}, q < t.length → Pre t q e → ∀ x ∈ e, 0 < x ∧ x < t.length
  | [], q, _, _ => by simp
  | y :: ys, q, hq, hp => by
    obtain ⟨p1, p2, p3⟩ := hp
    have hy : y < t.length := by
      rw [← p1]
      by_cases h0 : q = 0
      · subst h0; rw [h.2.1]; omega
      · have := h.2.2 q (by omega) hq; omega
    intro x hx
    rcases List.mem_cons.1 hx with rfl | hx
    · exact ⟨p2, hy⟩
    · exact Pre.lt h hy p3 x hx
/-- how far above -/
def abvF (t : List Nat) (p : Nat) : Nat → Nat → Option Nat
  | 0, _ => none
  | n + 1, b => if b = 0 then none else if p = b then some 0 else (abvF t p n (par t b)).map (· + 1)
def abv (t : List Nat) (p b : Nat) : Option Nat := abvF t p (b + 1) b
theorem abvF_more {t : List Nat} (h : Tree t) {p : Nat} : ∀ {n m b}, b < n → b < m → b < t.length → abvF t p n b = abvF t p m b
  | 0, _, _, h1, _, _ => absurd h1 (by omega)
  | _, 0, _, _, h2, _ => absurd h2 (by omega)
  | n + 1, m + 1, b, h1, h2, h3 => by
    unfold abvF
    by_cases hb : b = 0
    · simp [hb]
    · simp only [hb, if_false]
      by_cases hp : p = b
      · simp [hp]
      · simp only [hp, if_false]
        have := h.2.2 b (by omega) h3
        rw [abvF_more h (n := n) (m := m) (b := par t b) (by omega) (by omega) (by omega)]
theorem abv_zero {t : List Nat} {p : Nat} : abv t p 0 = none := by simp [abv, abvF]
theorem abv_eq {t : List Nat} {p b : Nat} (hb : b ≠ 0) (e : p = b) : abv t p b = some 0 := by simp [abv, abvF, hb, e]
theorem abv_step {t : List Nat} (h : Tree t) {p b : Nat} (hb : b ≠ 0) (hl : b < t.length) (e : p ≠ b) : abv t p b = (abv t p (par t b)).map (· + 1) := by
  have := h.2.2 b (by omega) hl
  show abvF t p (b + 1) b = _
  unfold abvF
  simp only [hb, e, if_false]
  rw [abvF_more h (m := par t b + 1) (by omega) (by omega) (by omega)]
  rfl
theorem abv_pre {t : List Nat} (h : Tree t) {p : Nat} : ∀ {e q}, 0 < q → q < t.length → Pre t q e → ((∃ f, abv t p q = some f ∧ f ≤ e.length) ↔ (p = q ∨ p ∈ e))
  | [], q, h0, hq, _ => by
    by_cases e : p = q
    · rw [abv_eq (by omega) e]; simp [e]
    · rw [abv_step h (by omega) hq e]
      simp only [e, false_or, List.not_mem_nil, iff_false, Option.map_eq_some_iff, List.length_nil]
      rintro ⟨f, ⟨g, _, rfl⟩, h2⟩
      omega
  | x :: xs, q, h0, hq, ⟨p1, p2, p3⟩ => by
    by_cases e : p = q
    · rw [abv_eq (by omega) e]; simp [e]
    · have hx : x < t.length := by have := h.2.2 q h0 hq; omega
      have ih := abv_pre h (p := p) p2 hx p3
      rw [abv_step h (by omega) hq e, p1]
      simp only [e, false_or, List.mem_cons]
      rw [← ih]
      constructor
      · rintro ⟨f, hf, hl⟩
        obtain ⟨g, hg, rfl⟩ := Option.map_eq_some_iff.1 hf
        exact ⟨g, hg, by simp at hl; omega⟩
      · rintro ⟨g, hg, hl⟩
        exact ⟨g + 1, by rw [hg]; rfl, by simp; omega⟩
/-- what two lines say, told by their elder ones -/
def cmp (p : Nat) (e : List Nat) (q : Nat) (f : List Nat) : Nat :=
  if p = q then 4 else if p ∈ f then 5 else if q ∈ e then 6 else if ∃ x, x ∈ e ∧ x ∈ f then 7 else 8
end Go.Proofs.Ytidmijpfoodkoaa.Ut
end

section
open Go Go.Ax Go.Proofs.Ytidmijpfoodkoaa
namespace Go.Proofs.Ytidmijpfoodkoaa.utr
noncomputable def fns : List (Nat × Func) := [(8, Try.f8), (29, Try.f29), (30, Try.f30), (31, Try.f31), (34, Try.f34), (35, Try.f35), (36, Try.f36), (37, Try.f37), (38, Try.f38), (44, Try.f44), (52, Try.f52), (54, Try.f54), (57, Try.f57), (58, Try.f58)]
noncomputable def E : Env := envEx Try.prog (List.range 119) fns []
def fl0 : Fl := ⟨[], [], [], []⟩
theorem fnsOk : AllFn Try.prog fns :=
  ⟨⟨Try.func8, Try.call8⟩, ⟨Try.func29, Try.call29⟩, ⟨Try.func30, Try.call30⟩, ⟨Try.func31, Try.call31⟩, ⟨Try.func34, Try.call34⟩, ⟨Try.func35, Try.call35⟩, ⟨Try.func36, Try.call36⟩, ⟨Try.func37, Try.call37⟩, ⟨Try.func38, Try.call38⟩, ⟨Try.func44, Try.call44⟩, ⟨Try.func52, Try.call52⟩, ⟨Try.func54, Try.call54⟩, ⟨Try.func57, Try.call57⟩, ⟨Try.func58, Try.call58⟩, trivial⟩
theorem mixed : Try.prog.follows .mixedOrders = true := by kernel_rfl
theorem Eok : Env.Ok Try.prog E := envEx_ok (xs := []) fnsOk trivial mixed

/-! ### Contains -/
noncomputable def c44 : Code := Option.getD Try.f44.body .skip
def row (l : List Int) : List AV := l.map fun z => .int .u64 z
def memI (x : Int) : List Int → Bool
  | [] => false
  | e :: es => bif eqF x e then true else memI x es
noncomputable def F44 (s : AV) (x : Int) : AFr := { m := putArgs [s, .int .u64 x] 0 .e, n := 9, defs := [] }
def flsC : List (Nat × Fl) := [(54, ⟨[], [], [16], []⟩)]
def flC : Fl := ⟨[], [7], [], []⟩
noncomputable def tC0 (x : Int) : Tr (Exit × AFr × ASt) := (TM E noSum flsC fl0 30).ex flC none c44 (F44 (.slice none 0 (.known 0)) x) (mkSt [] 0)
noncomputable def tC1 (c : Cap) (x e1 : Int) : Tr (Exit × AFr × ASt) := (TM E noSum flsC fl0 30).ex flC none c44 (F44 (.slice (some (0, 0)) 1 c) x) (mkSt [(0, .cells (row [e1]) false)] 1)
noncomputable def tC2 (c : Cap) (x e1 e2 : Int) : Tr (Exit × AFr × ASt) := (TM E noSum flsC fl0 30).ex flC none c44 (F44 (.slice (some (0, 0)) 2 c) x) (mkSt [(0, .cells (row [e1, e2]) false)] 1)
noncomputable def tC3 (c : Cap) (x e1 e2 e3 : Int) : Tr (Exit × AFr × ASt) := (TM E noSum flsC fl0 30).ex flC none c44 (F44 (.slice (some (0, 0)) 3 c) x) (mkSt [(0, .cells (row [e1, e2, e3]) false)] 1)
theorem vcC0 (x : Int) (Q : Exit × Option AV → Prop) : Q (.ret, some (.bool false)) = (tC0 x).allY (fun r => Q (r.1, ans (leaveA E Try.f44 r.2.1 r.2.2))) .nil := by kernel_rfl
theorem vcC1 (c : Cap) (x e1 : Int) (Q : Exit × Option AV → Prop) : ifB (eqF x e1) (Q (.ret, some (.bool true))) (Q (.ret, some (.bool false))) = (tC1 c x e1).allY (fun r => Q (r.1, ans (leaveA E Try.f44 r.2.1 r.2.2))) (.b .nil .nil) := by kernel_rfl
theorem vcC2 (c : Cap) (x e1 e2 : Int) (Q : Exit × Option AV → Prop) : ifB (eqF x e1) (Q (.ret, some (.bool true))) (ifB (eqF x e2) (Q (.ret, some (.bool true))) (Q (.ret, some (.bool false)))) = (tC2 c x e1 e2).allY (fun r => Q (r.1, ans (leaveA E Try.f44 r.2.1 r.2.2))) (.b .nil (.b .nil .nil)) := by kernel_rfl
theorem vcC3 (c : Cap) (x e1 e2 e3 : Int) (Q : Exit × Option AV → Prop) : ifB (eqF x e1) (Q (.ret, some (.bool true))) (ifB (eqF x e2) (Q (.ret, some (.bool true))) (ifB (eqF x e3) (Q (.ret, some (.bool true))) (Q (.ret, some (.bool false))))) = (tC3 c x e1 e2 e3).allY (fun r => Q (r.1, ans (leaveA E Try.f44 r.2.1 r.2.2))) (.b .nil (.b .nil (.b .nil .nil))) := by kernel_rfl
end Go.Proofs.Ytidmijpfoodkoaa.utr
end

section
open Go Go.Ax Go.Proofs.Ytidmijpfoodkoaa
namespace Go.Proofs.Ytidmijpfoodkoaa.utr
theorem view0 (st : ASt) : View [] st (mkSt [] 0) := ⟨rfl, fun j x hj => by
  have : (mkSt [] 0).h.get j = none := by show (T.e : T AO).get j = none; rw [T.get_e]
  rw [this] at hj; cases hj⟩
theorem view1 {st : ASt} {i : Nat} {cs cs' : List AV} {a : Bool} (hi : st.h.get i = some (.cells cs a)) (hr : renVs [i] cs = some cs') : View [i] st (mkSt [(0, .cells cs' false)] 1) := ⟨rfl, fun j x hj => by
  have hg : (mkSt [(0, .cells cs' false)] 1).h.get j = if j = 0 then some (.cells cs' false) else none := by
    show ((T.e : T AO).set D 0 _).get j = _
    rw [T.get_set, T.get_e]
  rw [hg] at hj
  by_cases e0 : j = 0
  · subst e0
    simp at hj; subst hj
    exact ⟨i, a, cs, cs', rfl, rfl, hi, hr⟩
  · simp [e0] at hj⟩
theorem renVs_row (ids : List Nat) : ∀ l : List Int, renVs ids (row l) = some (row l)
  | [] => rfl
  | x :: xs => by
    show renVs ids (.int .u64 x :: row xs) = _
    simp only [renVs, renV, renVs_row ids xs]
    rfl
def ints : List AV → Option (List Int)
  | [] => some []
  | .int .u64 z :: cs => (match ints cs with | some l => some (z :: l) | none => none)
  | _ => none
theorem ints_row : ∀ {cs : List AV} {l : List Int}, ints cs = some l → cs = row l
  | [], l, h => by simp [ints] at h; subst h; rfl
  | c :: cs, l, h => by
    unfold ints at h
    split at h
    · rename_i h0; cases h0
    · rename_i z cs' h0
      cases h0
      split at h
      · rename_i l' h1
        simp at h; subst h
        rw [ints_row h1]; rfl
      · cases h
    · cases h

theorem ct_at0 (x : Int) : AtMem Try.prog 44 [.slice none 0 (.known 0), .int .u64 x] (mkSt [] 0) (.bool false) := by
  refine AtMem.of_trip Eok (fn := Try.f44) (by kernel_rfl) (c := c44) (by kernel_rfl) (by kernel_rfl) ?_
  exact Trip.runY Eok noSum_ok (Eq.mp (vcC0 x fun q => (q.1 = .normal ∨ q.1 = .ret) ∧ q.2 = some (.bool false)) ⟨.inr rfl, rfl⟩)
theorem ct_at {es : List Int} (c : Cap) (x : Int) (h1 : 1 ≤ es.length) (h3 : es.length ≤ 3) : AtMem Try.prog 44 [.slice (some (0, 0)) es.length c, .int .u64 x] (mkSt [(0, .cells (row es) false)] 1) (.bool (memI x es)) := by
  refine AtMem.of_trip Eok (fn := Try.f44) (by kernel_rfl) (c := c44) (by kernel_rfl) (by kernel_rfl) ?_
  match es, h1, h3 with
  | [e1], _, _ =>
    refine Trip.runY Eok noSum_ok (Eq.mp (vcC1 c x e1 fun q => (q.1 = .normal ∨ q.1 = .ret) ∧ q.2 = some (.bool (memI x [e1]))) ?_)
    exact ifB_mk (fun h => ⟨.inr rfl, by simp [memI, h]⟩) (fun h => ⟨.inr rfl, by simp [memI, h]⟩)
  | [e1, e2], _, _ =>
    refine Trip.runY Eok noSum_ok (Eq.mp (vcC2 c x e1 e2 fun q => (q.1 = .normal ∨ q.1 = .ret) ∧ q.2 = some (.bool (memI x [e1, e2]))) ?_)
    exact ifB_mk (fun h => ⟨.inr rfl, by simp [memI, h]⟩) (fun h => ifB_mk (fun g => ⟨.inr rfl, by simp [memI, h, g]⟩) (fun g => ⟨.inr rfl, by simp [memI, h, g]⟩))
  | [e1, e2, e3], _, _ =>
    refine Trip.runY Eok noSum_ok (Eq.mp (vcC3 c x e1 e2 e3 fun q => (q.1 = .normal ∨ q.1 = .ret) ∧ q.2 = some (.bool (memI x [e1, e2, e3]))) ?_)
    exact ifB_mk (fun h => ⟨.inr rfl, by simp [memI, h]⟩) (fun h => ifB_mk (fun g => ⟨.inr rfl, by simp [memI, h, g]⟩) (fun g => ifB_mk (fun k => ⟨.inr rfl, by simp [memI, h, g, k]⟩) (fun k => ⟨.inr rfl, by simp [memI, h, g, k]⟩)))
  | _ :: _ :: _ :: _ :: _, _, h => simp at h

/-- Contains, as a summary -/
noncomputable def sumCt : CallT := fun f args st => bif Nat.beq 44 f then (match args with
  | [.slice none 0 (.known 0), .int .u64 x] => some (.bool false, st)
  | [.slice (some (i, 0)) n c, .int .u64 x] => (match st.h.get i with
    | some (.cells cs _) => (match ints cs with
      | some l => bif Nat.beq l.length n then (bif Nat.ble 1 l.length then (bif Nat.ble l.length 3 then some (.bool (memI x l), st) else none) else none) else none
      | none => none)
    | _ => none)
  | _ => none) else none

theorem sumCt_ok : CallsOK Try.prog sumCt := by
  intro B w0 f args st r h ι w args' hsr hv
  unfold sumCt at h
  cases hf : Nat.beq 44 f
  · simp [hf] at h
  simp only [hf, cond_true] at h
  have := nbeq hf
  subst this
  split at h
  · rename_i x
    simp only [Option.some.injEq] at h
    subst h
    exact local_ro (ct_at0 x) rfl hsr (ids := []) (view0 st) (by simp [renVs, renV]) hv
  · rename_i i n c x
    split at h
    rotate_left
    · cases h
    rename_i cs a hi
    split at h
    rotate_left
    · cases h
    rename_i l hl
    cases g1 : Nat.beq l.length n
    · simp [g1] at h
    cases g2 : Nat.ble 1 l.length
    · simp [g1, g2] at h
    cases g3 : Nat.ble l.length 3
    · simp [g1, g2, g3] at h
    simp only [g1, g2, g3, cond_true, Option.some.injEq] at h
    subst h
    have e1 := nbeq g1
    subst e1
    have e2 := ints_row hl
    subst e2
    exact local_ro (ct_at c x (Nat.le_of_ble_eq_true g2) (Nat.le_of_ble_eq_true g3)) rfl hsr (ids := [i]) (view1 hi (renVs_row _ _)) (by simp [renVs, renV, idxN]) hv
  · cases h
end Go.Proofs.Ytidmijpfoodkoaa.utr
end

section
open Go Go.Ax Go.Proofs.Ytidmijpfoodkoaa
namespace Go.Proofs.Ytidmijpfoodkoaa.utr
inductive Hs where
  | z
  | o (x : Nat)
  | t (x y : Nat)
structure Ln where
  c : Nat
  b : Option Nat
  h : Hs
def bI : Option Nat → Int
  | none => .ofNat 0
  | some x => .ofNat (x + 1)
def Hs.i0 : Hs → Int
  | .z => .ofNat 0
  | .o x => .ofNat (x + 1)
  | .t x _ => .ofNat (x + 1)
def Hs.i1 : Hs → Int
  | .z => .ofNat 0
  | .o _ => .ofNat 0
  | .t _ y => .ofNat (y + 1)
def lv (l : Ln) : List AV := [.int .u64 (.ofNat (l.c + 1)), .int .u64 (bI l.b), .int .u64 l.h.i0, .int .u64 l.h.i1]
noncomputable def c34 : Code := Option.getD Try.f34.body .skip
noncomputable def F34 (a b : Ln) : AFr := { m := putArgs [.agg (lv a), .agg (lv b)] 0 .e, n := 41, defs := [] }
def flsM : List (Nat × Fl) := [(52, ⟨[], [11], [], []⟩), (57, ⟨[], [], [16], []⟩)]
def flM : Fl := ⟨[], [39], [23, 24, 30], []⟩
noncomputable def tM (a b : Ln) : Tr (Exit × AFr × ASt) := (TM E sumCt flsM fl0 80).ex flM none c34 (F34 a b) (mkSt [] 0)
end Go.Proofs.Ytidmijpfoodkoaa.utr
end

section
open Go Go.Ax Go.Proofs.Ytidmijpfoodkoaa
namespace Go.Proofs.Ytidmijpfoodkoaa.utr
def Hs.es : Hs → List Int
  | .z => []
  | .o x => [.ofNat (x + 1)]
  | .t x y => [.ofNat (x + 1), .ofNat (y + 1)]
def eldB : Option Nat → List Int → List Int
  | none, l => l
  | some x, l => .ofNat (x + 1) :: l
def eld (l : Ln) : List Int := eldB l.b l.h.es
def cur (l : Ln) : Int := .ofNat (l.c + 1)
def okV (z : Int) : Prop := holdsO [(some (AV.int IntKind.u64 z), AV.int IntKind.u64 z)]
def vd (n : Nat) : Exit × Option AV := (.ret, some (.int .i64 (.ofNat n)))
def bothQ (Q : Exit × Option AV → Prop) (fs : List Int) : List Int → Prop
  | [] => Q (vd 8)
  | e :: es => ifB (memI e fs) (Q (vd 7)) (bothQ Q fs es)
def bothA : List Int → An
  | [] => .nil
  | _ :: es => .b .nil (bothA es)
def cmpQ (Q : Exit × Option AV → Prop) (a b : Ln) : Prop :=
  ifB (eqF (cur a) (cur b)) (Q (vd 4)) (ifB (memI (cur a) (eld b)) (okV (cur a) ∧ Q (vd 5)) (okV (cur a) ∧ ifB (memI (cur b) (eld a)) (okV (cur b) ∧ Q (vd 6)) (okV (cur b) ∧ bothQ Q (eld b) (eld a))))
theorem vcM (a b : Ln) (Q : Exit × Option AV → Prop) : cmpQ Q a b = (tM a b).allY (fun r => Q (r.1, ans (leaveA E Try.f34 r.2.1 r.2.2))) (.b .nil (.b .nil (.b .nil (bothA (eld a))))) := by
  obtain ⟨a, ab, ah⟩ := a
  obtain ⟨b, bb, bh⟩ := b
  cases ab <;> cases bb <;> cases ah <;> cases bh <;> kernel_rfl
end Go.Proofs.Ytidmijpfoodkoaa.utr
end

section
open Go Go.Ax Go.Proofs.Ytidmijpfoodkoaa
namespace Go.Proofs.Ytidmijpfoodkoaa.utr
theorem okV_ok (z : Int) : okV z := ⟨⟨rfl, by simp [avEq]⟩, trivial⟩
def anyI (fs : List Int) : List Int → Bool
  | [] => false
  | e :: es => bif memI e fs then true else anyI fs es
def cmpN (a b : Ln) : Nat :=
  bif eqF (cur a) (cur b) then 4 else bif memI (cur a) (eld b) then 5 else bif memI (cur b) (eld a) then 6 else bif anyI (eld b) (eld a) then 7 else 8
theorem bothQ_ok {Q : Exit × Option AV → Prop} {fs : List Int} : ∀ es, (anyI fs es = true → Q (vd 7)) → (anyI fs es = false → Q (vd 8)) → bothQ Q fs es
  | [], h7, h8 => h8 rfl
  | e :: es, h7, h8 => ifB_mk (fun h => h7 (by simp [anyI, h])) (fun h => bothQ_ok es (fun g => h7 (by simp [anyI, h, g])) (fun g => h8 (by simp [anyI, h, g])))
theorem cmp_at (a b : Ln) : AtMem Try.prog 34 [.agg (lv a), .agg (lv b)] (mkSt [] 0) (.int .i64 (.ofNat (cmpN a b))) := by
  refine AtMem.of_trip Eok (fn := Try.f34) (by kernel_rfl) (c := c34) (by kernel_rfl) (by kernel_rfl) ?_
  have e : ({ m := putArgs [.agg (lv a), .agg (lv b)] 0 .e, n := Try.f34.ntmps, defs := [] } : AFr) = F34 a b := by kernel_rfl
  rw [e]
  refine Trip.runY Eok sumCt_ok (Eq.mp (vcM a b fun q => (q.1 = .normal ∨ q.1 = .ret) ∧ q.2 = some (.int .i64 (.ofNat (cmpN a b)))) ?_)
  refine ifB_mk (fun h => ⟨.inr rfl, by simp [vd, cmpN, h]⟩) (fun h1 => ifB_mk (fun h => ⟨okV_ok _, .inr rfl, by simp [vd, cmpN, h, h1]⟩) (fun h2 => ⟨okV_ok _, ifB_mk (fun h => ⟨okV_ok _, .inr rfl, by simp [vd, cmpN, h, h1, h2]⟩) (fun h3 => ⟨okV_ok _, ?_⟩)⟩))
  exact bothQ_ok _ (fun h => ⟨.inr rfl, by simp [vd, cmpN, h, h1, h2, h3]⟩) (fun h => ⟨.inr rfl, by simp [vd, cmpN, h, h1, h2, h3]⟩)

def bOf : Int → Option (Option Nat)
  | .ofNat 0 => some none
  | .ofNat (x + 1) => some (some x)
  | .negSucc _ => none
def hOf : Int → Int → Option Hs
  | .ofNat 0, .ofNat 0 => some .z
  | .ofNat (x + 1), .ofNat 0 => some (.o x)
  | .ofNat (x + 1), .ofNat (y + 1) => some (.t x y)
  | _, _ => none
def lnOf : List AV → Option Ln
  | [.int .u64 (.ofNat (c + 1)), .int .u64 b, .int .u64 i, .int .u64 j] => (match bOf b with
    | some b => (match hOf i j with | some h => some ⟨c, b, h⟩ | none => none)
    | none => none)
  | _ => none
theorem bOf_ok {z : Int} {b : Option Nat} (h : bOf z = some b) : z = bI b := by
  unfold bOf at h
  split at h <;> simp at h <;> subst h <;> rfl
theorem hOf_ok {i j : Int} {b : Hs} (h : hOf i j = some b) : i = b.i0 ∧ j = b.i1 := by
  unfold hOf at h
  split at h <;> simp at h <;> subst h <;> exact ⟨rfl, rfl⟩
theorem lnOf_ok {cs : List AV} {l : Ln} (h : lnOf cs = some l) : cs = lv l := by
  unfold lnOf at h
  split at h
  · rename_i c b i j
    split at h
    · rename_i b' hb
      split at h
      · rename_i h' hh
        simp at h; subst h
        obtain ⟨e1, e2⟩ := hOf_ok hh
        rw [bOf_ok hb, e1, e2]; rfl
      · cases h
    · cases h
  · cases h
def sumCmp : CallT := fun f args st => bif Nat.beq 34 f then (match args with
  | [.agg xs, .agg ys] => (match lnOf xs with
    | some a => (match lnOf ys with | some b => some (.int .i64 (.ofNat (cmpN a b)), st) | none => none)
    | none => none)
  | _ => none) else none
theorem renVs_lv (ids : List Nat) (l : Ln) : renVs ids (lv l) = some (lv l) := rfl
theorem sumCmp_ok : CallsOK Try.prog sumCmp := by
  intro B w0 f args st r h ι w args' hsr hv
  unfold sumCmp at h
  cases hf : Nat.beq 34 f
  · simp [hf] at h
  simp only [hf, cond_true] at h
  have := nbeq hf
  subst this
  split at h
  · rename_i xs ys
    split at h
    · rename_i a ha
      split at h
      · rename_i b hb
        simp only [Option.some.injEq] at h
        subst h
        rw [lnOf_ok ha, lnOf_ok hb] at hv
        exact local_ro (cmp_at a b) rfl hsr (ids := []) (view0 st) (by simp [renVs, renV, renVs_lv]) hv
      · cases h
    · cases h
  · cases h
end Go.Proofs.Ytidmijpfoodkoaa.utr
end

section
open Go Go.Ax Go.Proofs.Ytidmijpfoodkoaa Go.Proofs.Ytidmijpfoodkoaa.Ut
namespace Go.Proofs.Ytidmijpfoodkoaa.utr
def nI (n : Nat) : AV := .int .i64 (.ofNat n)
def trow (t : List Nat) : List AV := t.map nI
theorem trow_get {t : List Nat} {x : Nat} (h : x < t.length) : (trow t)[0 + x * 1]? = some (nI (par t x)) := by
  simp [trow, par, List.getD_eq_getElem?_getD, h]
theorem sl79 : sliceT E 79 = some 1 := by kernel_rfl
theorem ce3 : cellT E 3 = true := by kernel_rfl
/-! ### above -/
noncomputable def c36 : Code := Option.getD Try.f36.body .skip
noncomputable def r36 : Code := seqL (seqL (dropC 0 c36))
noncomputable def B36 : Code := lopB (blkB (seqR (seqL (dropC 0 c36))))
noncomputable def stU (t : List Nat) : ASt := mkSt [(0, .cells (trow t) false)] 1
noncomputable def F36 (s : AV) (p b : Nat) : AFr := { m := putArgs [s, nI p, nI b] 0 .e, n := 21, defs := [] }
noncomputable def fr36 (s : AV) (p b far : Nat) : AFr := xFr [(0, s), (1, nI p), (2, nI b), (6, nI 0), (7, .bool false), (8, nI far)] 21
noncomputable def fr36a (s : AV) (p b : Nat) : AFr := xFr [(0, s), (1, nI p), (2, nI b), (6, nI 0), (7, .bool false)] 21
def fl36 : Fl := ⟨[19, 20], [], [10, 15], []⟩
noncomputable def tU0 (t : List Nat) (s : AV) (p b : Nat) : Tr (Exit × AFr × ASt) := (TM E noSum [] fl0 80).ex fl0 none (preC 0 c36) (F36 s p b) (stU t)
noncomputable def tUa (t : List Nat) (s : AV) (p b : Nat) : Tr (Exit × AFr × ASt) := (TM E noSum [] fl0 80).ex fl0 none r36 (fr36a s p b) (stU t)
noncomputable def tU1 (t : List Nat) (s : AV) (p b far pb : Nat) : Tr (Exit × AFr × ASt) := (TM E noSum [] fl0 80).ex fl36 none B36 (fr36 s p b far) (stU t)
noncomputable def tU2 (t : List Nat) (s : AV) (p b far : Nat) : Tr (Exit × AFr × ASt) := (TM E noSum [] fl0 80).ex fl0 none (dropC 1 c36) (fr36 s p b far) (stU t)
theorem vcU0 (t : List Nat) (s : AV) (p b : Nat) (Q : Exit × AFr × ASt → Prop) : Q (.normal, fr36a s p b, stU t) = (tU0 t s p b).allY (fun r => Q (canR [0, 1, 2, 6, 7] [0] r)) .nil := by kernel_rfl
theorem vcUa (t : List Nat) (s : AV) (p b : Nat) (Q : Exit × AFr × ASt → Prop) : Q (.normal, fr36 s p b 0, stU t) = (tUa t s p b).allY (fun r => Q (canR [0, 1, 2, 6, 7, 8] [0] r)) .nil := by kernel_rfl
theorem vcU1 (t : List Nat) (s : AV) (p b far pb : Nat) (Q : Exit × AFr × ASt → Prop) (Q2 : Exit × Option AV → Prop) :
  ifB (ltF (.ofNat 0) (.ofNat b)) (ifB (eqF (.ofNat p) (.ofNat b)) (Q2 (.ret, some (.tuple [nI far, .bool true])))
    (still (stU t) (aIndexAddr E 79 s (nI b)) = some (.ptr (some (0, 0 + b * 1)), stU t) ∧ aLoad E 3 (.ptr (some (0, 0 + b * 1))) (stU t) = some (nI pb, stU t) ∧
      Q (.normal, xFr [(0, s), (1, nI p), (2, nI pb), (6, nI 0), (7, .bool false), (8, .int .i64 (wrapF .i64 (.ofNat far + .ofNat 1)))] 21, stU t)))
    (Q (.exit 0, fr36 s p b far, stU t)) =
  (tU1 t s p b far pb).allY (mixQ E Try.f36 [0, 1, 2, 6, 7, 8] [0] Q Q2) (.b (.b .nil (.v (.ptr (some (0, 0 + b * 1)), stU t) (.v (nI pb, stU t) .nil))) .nil) := by kernel_rfl
theorem vcU2 (t : List Nat) (s : AV) (p b far : Nat) (Q : Exit × Option AV → Prop) : Q (.ret, some (.tuple [nI 0, .bool false])) = (tU2 t s p b far).allY (fun r => Q (r.1, ans (leaveA E Try.f36 r.2.1 r.2.2))) .nil := by kernel_rfl

def upV (t : List Nat) (p q : Nat) : AV := match abv t p q with
  | some f => .tuple [nI f, .bool true]
  | none => .tuple [nI 0, .bool false]
def UQ (t : List Nat) (s : AV) (p b far : Nat) (r : Exit × AFr × ASt) : Prop :=
  (0 < b ∧ p ≠ b ∧ Stops 1 .normal (fr36 s p (par t b) (far + 1)) (stU t) r) ∨ (b = 0 ∧ Stops 1 (.exit 0) (fr36 s p b far) (stU t) r) ∨
  (0 < b ∧ p = b ∧ r.1 = .ret ∧ ans (leaveA E Try.f36 r.2.1 r.2.2) = some (.tuple [nI far, .bool true]))
theorem round36 {t : List Nat} {c : Cap} {p b far : Nat} (hb : b < t.length) (hf : far < 1000) : Trip Try.prog 1 none B36 (fr36 (.slice (some (0, 0)) t.length c) p b far) (stU t) (UQ t (.slice (some (0, 0)) t.length c) p b far) := by
  have hw := wrap_succ (i := far) (by omega)
  refine Trip.runM Eok noSum_ok (Eq.mp (vcU1 t (.slice (some (0, 0)) t.length c) p b far (par t b) (fun r => UQ t (.slice (some (0, 0)) t.length c) p b far r) (fun q => 0 < b ∧ p = b ∧ q = (.ret, some (.tuple [nI far, .bool true])))) ?_) (fun r hr hq => ?_) (fun r hr hq => ?_)
  · refine ifB_mk (fun h0 => ifB_mk (fun h1 => ?_) (fun h1 => ?_)) (fun h0 => ?_)
    · have g0 := ltF_t h0
      have g1 := eqF_t h1
      exact ⟨by simpa using g0, Int.ofNat.inj g1, rfl⟩
    · have g0 := ltF_t h0
      have g1 := eqF_f h1
      refine ⟨still_idx sl79 hb, load_at (rw := false) ce3 (by kernel_rfl) (trow_get hb), .inl ⟨by simpa using g0, fun e => g1 (congrArg Int.ofNat e), rfl, ?_⟩⟩
      rw [hw]; exact Wk.refl _ _ _
    · have g0 := ltF_f h0
      have : b = 0 := by simp at g0; omega
      exact .inr (.inl ⟨this, rfl, Wk.refl _ _ _⟩)
  · exact .inr (.inr ⟨hq.1, hq.2.1, hr, (Prod.mk.inj hq.2.2).2⟩)
  · rcases hq with ⟨q1, q2, q3⟩ | ⟨q1, q2⟩ | ⟨q1, q2, q3, q4⟩
    · exact .inl ⟨q1, q2, q3.can⟩
    · exact .inr (.inl ⟨q1, q2.can⟩)
    · exact absurd q3 hr
theorem up_at {t : List Nat} (ht : Tree t) {c : Cap} {p q : Nat} (hq0 : q < t.length) (hl : t.length ≤ 100) : AtMem Try.prog 36 [.slice (some (0, 0)) t.length c, nI p, nI q] (stU t) (upV t p q) := by
  refine AtMem.of_trip Eok (fn := Try.f36) (by kernel_rfl) (c := c36) (by kernel_rfl) (by kernel_rfl) ?_
  have e : ({ m := putArgs [.slice (some (0, 0)) t.length c, nI p, nI q] 0 .e, n := Try.f36.ntmps, defs := [] } : AFr) = F36 (.slice (some (0, 0)) t.length c) p q := by kernel_rfl
  rw [e]
  have e1 : dropC 0 c36 = .seq (.seq r36 (.block 0 (.loop B36))) (dropC 1 c36) := by kernel_rfl
  have e2 : (stU t).next = 1 := rfl
  rw [e2]
  refine Trip.preY Eok noSum_ok (k := 0) (by kernel_rfl) (Q1 := fun r => r = (.normal, fr36a (.slice (some (0, 0)) t.length c) p q, stU t)) (Eq.mp (vcU0 t _ p q fun r => r = (.normal, fr36a (.slice (some (0, 0)) t.length c) p q, stU t)) rfl) (fun F S hq => ?_) (fun r hne hq => absurd (congrArg (·.1) hq) hne)
  cases hq
  rw [e1]
  refine Trip.seq (R := fun r => (abv t p q = none ∧ ∃ b far, Stops 1 .normal (fr36 (.slice (some (0, 0)) t.length c) p b far) (stU t) r) ∨ (r.1 = .ret ∧ ans (leaveA E Try.f36 r.2.1 r.2.2) = some (upV t p q))) ?_ (fun fr' st' hq => ?_) (fun e fr' st' hne hq => ?_)
  · refine Trip.seq (R := Stops 1 .normal (fr36 (.slice (some (0, 0)) t.length c) p q 0) (stU t)) ((Trip.runY Eok noSum_ok (Eq.mp (vcUa t _ p q (Stops 1 .normal (fr36 (.slice (some (0, 0)) t.length c) p q 0) (stU t))) ⟨rfl, Wk.refl _ _ _⟩)).mono fun r hr => hr.can) (fun fr' st' hq => Trip.less hq.2 ?_) (fun e fr' st' hne hq => absurd hq.1 hne)
    refine Trip.block (Trip.loop (fun m fr st => ∃ b far, b < t.length ∧ m = b ∧ far + b ≤ 200 ∧ abv t p q = (abv t p b).map (· + far) ∧ fr = fr36 (.slice (some (0, 0)) t.length c) p b far ∧ st = stU t) ?_ q ⟨q, 0, hq0, rfl, by omega, by simp, rfl, rfl⟩)
    rintro m fr st ⟨b, far, hb, rfl, hf, ha, rfl, rfl⟩
    refine (round36 hb (by omega)).mono ?_
    rintro ⟨e, fr', st'⟩ (⟨q1, q2, q3, q4⟩ | ⟨q1, q3, q4⟩ | ⟨q1, q2, q3, q4⟩)
    · simp only at q3 q4
      subst q3
      have hp := ht.2.2 m q1 hb
      refine ⟨par t m, _, _, hp, q4, par t m, far + 1, by omega, rfl, by omega, ?_, rfl, rfl⟩
      rw [ha, abv_step ht (by omega) hb q2, Option.map_map]
      congr 1; funext x; simp only [Function.comp]; omega
    · simp only at q3 q4
      subst q3
      subst q1
      exact ⟨fun _ => .inl ⟨by rw [ha, abv_zero]; rfl, 0, far, rfl, q4⟩, fun h => absurd rfl h⟩
    · simp only at q3 q4
      subst q3
      refine .inr ⟨rfl, ?_⟩
      simp only
      rw [q4]
      unfold upV
      rw [ha, abv_eq (by omega) q2]
      simp
  · rcases hq with ⟨ha, b, far, _, hw⟩ | ⟨h1, _⟩
    · refine Trip.less hw (Trip.runY Eok noSum_ok (Eq.mp (vcU2 t _ p b far fun q' => (q'.1 = .normal ∨ q'.1 = .ret) ∧ q'.2 = some (upV t p q)) ⟨.inr rfl, ?_⟩))
      unfold upV
      rw [ha]
    · cases h1
  · rcases hq with ⟨ha, b, far, h1, hw⟩ | ⟨h1, h2⟩
    · exact absurd h1 hne
    · exact ⟨.inr h1, h2⟩
end Go.Proofs.Ytidmijpfoodkoaa.utr
end

section
open Go Go.Ax Go.Proofs.Ytidmijpfoodkoaa Go.Proofs.Ytidmijpfoodkoaa.Ut
namespace Go.Proofs.Ytidmijpfoodkoaa.utr
/-! ### shared -/
def Hs.ns : Hs → List Nat
  | .z => []
  | .o x => [x + 1]
  | .t x y => [x + 1, y + 1]
def eN (l : Ln) : List Nat := match l.b with
  | none => l.h.ns
  | some x => (x + 1) :: l.h.ns
theorem eld_eN (l : Ln) : eld l = (eN l).map Int.ofNat := by
  obtain ⟨c, b, h⟩ := l
  cases b <;> cases h <;> rfl
theorem eld_len (l : Ln) : (eld l).length = (eN l).length := by rw [eld_eN, List.length_map]
theorem lv_refs (l : Ln) : ∀ c, c ∈ lv l → refsV 0 c := by
  intro c hc
  simp only [lv, List.mem_cons, List.not_mem_nil, or_false] at hc
  rcases hc with rfl | rfl | rfl | rfl <;> simp [refsV]
theorem trow_refs (t : List Nat) : ∀ c, c ∈ trow t → refsV 0 c := by
  intro c hc
  obtain ⟨x, _, rfl⟩ := List.mem_map.1 hc
  simp [nI, refsV]
theorem conv_at {n : Nat} (h : n < 9223372036854775808) (st : ASt) : aConvert E 48 3 (.int .u64 (.ofNat n)) st = some (nI n, st) := by
  have e : aConvert E 48 3 (.int .u64 (.ofNat n)) st = some (.int .i64 (wrapF .i64 (.ofNat n)), st) := by kernel_rfl
  rw [e, wrap_nat h]; rfl
noncomputable def c38 : Code := Option.getD Try.f38.body .skip
noncomputable def s38 : Code := seqL (seqL (dropC 1 c38))
noncomputable def LO : Code := lopB (blkB (seqR (seqL (dropC 1 c38))))
noncomputable def HO : Code := seqL LO
noncomputable def BX : Code := blkB (seqL (seqR LO))
noncomputable def r4 : Code := seqR (seqR LO)
noncomputable def LI : Code := lopB (blkB (dropC 2 BX))
noncomputable def HI : Code := seqL LI
noncomputable def RI : Code := seqR LI
def sl (n : Nat) (c : Cap) : AV := .slice (some (0, 0)) n c
noncomputable def F38 (s : AV) (a b : Ln) : AFr := { m := putArgs [s, .agg (lv a), .agg (lv b)] 0 .e, n := 48, defs := [] }
def oS (t : List Nat) (a b : Ln) : List (Nat × AO) := [(0, .cells (trow t) false), (1, .cells (lv a) true), (2, .cells (lv b) true)]
noncomputable def stS (t : List Nat) (a b : Ln) (n : Nat) : ASt := mkSt (oS t a b) n
noncomputable def fr38 (s : AV) (x : List (Nat × AV)) : AFr := xFr ([(0, s), (4, .ptr (some (1, 0))), (5, .ptr (some (2, 0))), (6, .bool false)] ++ x) 48
noncomputable def frO (s : AV) (x y i : Nat) : AFr := fr38 s [(7, nI x), (8, nI y), (9, nI i)]
noncomputable def frI (s : AV) (x y i z k : Nat) : AFr := fr38 s [(7, nI x), (8, nI y), (9, nI i), (10, nI z), (11, nI k)]
def flH (l : List Nat) (b : List Nat) : Fl := ⟨l, [], b, []⟩
noncomputable def tS0 (t : List Nat) (s : AV) (a b : Ln) : Tr (Exit × AFr × ASt) := (TM E noSum [] fl0 80).ex (flH [14, 17] []) none (preC 1 c38) (F38 s a b) (stU t)
noncomputable def tS1 (t : List Nat) (s : AV) (a b : Ln) (x y : Nat) : Tr (Exit × AFr × ASt) := (TM E noSum [] fl0 80).ex fl0 none s38 (fr38 s [(7, nI x), (8, nI y)]) (stS t a b 3)
noncomputable def tSH (t : List Nat) (s : AV) (a b : Ln) (x y i : Nat) : Tr (Exit × AFr × ASt) := (TM E noSum [] fl0 80).ex (flH [] [22]) none HO (frO s x y i) (stS t a b 3)
noncomputable def tSB (t : List Nat) (s : AV) (a b : Ln) (x y i x2 : Nat) : Tr (Exit × AFr × ASt) := (TM E noSum [] fl0 80).ex (flH [27, 28] []) none (preC 2 BX) (frO s x y i) (stS t a b 3)
noncomputable def tSI (t : List Nat) (s : AV) (a b : Ln) (x y i z k : Nat) : Tr (Exit × AFr × ASt) := (TM E noSum [] fl0 80).ex (flH [] [34]) none HI (frI s x y i z k) (stS t a b 3)
noncomputable def tSR (t : List Nat) (s : AV) (a b : Ln) (x y i z k z2 : Nat) : Tr (Exit × AFr × ASt) := (TM E noSum [] fl0 80).ex (flH [39, 40] [43, 46]) none RI (frI s x y i z k) (stS t a b 3)
noncomputable def tS4 (t : List Nat) (s : AV) (a b : Ln) (x y i z k : Nat) : Tr (Exit × AFr × ASt) := (TM E noSum [] fl0 80).ex fl0 none r4 (frI s x y i z k) (stS t a b 3)
noncomputable def tS5 (t : List Nat) (s : AV) (a b : Ln) (x y i : Nat) : Tr (Exit × AFr × ASt) := (TM E noSum [] fl0 80).ex fl0 none (dropC 2 c38) (frO s x y i) (stS t a b 3)
theorem vcS0 (t : List Nat) (s : AV) (a b : Ln) (Q : Exit × AFr × ASt → Prop) :
  (aConvert E 48 3 (.int .u64 (.ofNat (a.c + 1))) (stS t a b 11) = some (nI (a.c + 1), stS t a b 11) ∧ aConvert E 48 3 (.int .u64 (.ofNat (b.c + 1))) (stS t a b 11) = some (nI (b.c + 1), stS t a b 11) ∧ Q (.normal, fr38 s [(7, nI (a.c + 1)), (8, nI (b.c + 1))], stS t a b 11)) =
  (tS0 t s a b).allY (fun r => Q (canR [0, 4, 5, 6, 7, 8] [0, 1, 2] r)) (.v (nI (a.c + 1), stS t a b 11) (.v (nI (b.c + 1), stS t a b 11) .nil)) := by kernel_rfl
theorem vcS1 (t : List Nat) (s : AV) (a b : Ln) (x y : Nat) (Q : Exit × AFr × ASt → Prop) : Q (.normal, frO s x y 0, stS t a b 3) = (tS1 t s a b x y).allY (fun r => Q (canR [0, 4, 5, 6, 7, 8, 9] [0, 1, 2] r)) .nil := by kernel_rfl
theorem vcSH (t : List Nat) (s : AV) (a b : Ln) (x y i : Nat) (Q : Exit × AFr × ASt → Prop) :
  ifB (ltF (.ofNat i) (.ofNat (eld a).length)) (Q (.normal, frO s x y i, stS t a b (4 + 2 * (eld a).length))) (Q (.exit 0, frO s x y i, stS t a b (4 + 2 * (eld a).length))) =
  (tSH t s a b x y i).allY (fun r => Q (canR [0, 4, 5, 6, 7, 8, 9] [0, 1, 2] r)) (.b .nil .nil) := by
  obtain ⟨c, ab, ah⟩ := a
  cases ab <;> cases ah <;> kernel_rfl
theorem vcSB (t : List Nat) (s : AV) (a b : Ln) (x y i x2 : Nat) (Q : Exit × AFr × ASt → Prop) :
  (still (stS t a b 3) (aIndexAddr E 79 s (nI x)) = some (.ptr (some (0, 0 + x * 1)), stS t a b 3) ∧ aLoad E 3 (.ptr (some (0, 0 + x * 1))) (stS t a b 3) = some (nI x2, stS t a b 3) ∧ Q (.normal, frI s x2 y i y 0, stS t a b 3)) =
  (tSB t s a b x y i x2).allY (fun r => Q (canR [0, 4, 5, 6, 7, 8, 9, 10, 11] [0, 1, 2] r)) (.v (.ptr (some (0, 0 + x * 1)), stS t a b 3) (.v (nI x2, stS t a b 3) .nil)) := by kernel_rfl
theorem vcSI (t : List Nat) (s : AV) (a b : Ln) (x y i z k : Nat) (Q : Exit × AFr × ASt → Prop) :
  ifB (ltF (.ofNat k) (.ofNat (eld b).length)) (Q (.normal, frI s x y i z k, stS t a b (4 + 2 * (eld b).length))) (Q (.exit 2, frI s x y i z k, stS t a b (4 + 2 * (eld b).length))) =
  (tSI t s a b x y i z k).allY (fun r => Q (canR [0, 4, 5, 6, 7, 8, 9, 10, 11] [0, 1, 2] r)) (.b .nil .nil) := by
  obtain ⟨c, bb, bh⟩ := b
  cases bb <;> cases bh <;> kernel_rfl
theorem vcSR (t : List Nat) (s : AV) (a b : Ln) (x y i z k z2 : Nat) (Q : Exit × AFr × ASt → Prop) (Q2 : Exit × Option AV → Prop) :
  (still (stS t a b 3) (aIndexAddr E 79 s (nI z)) = some (.ptr (some (0, 0 + z * 1)), stS t a b 3) ∧ aLoad E 3 (.ptr (some (0, 0 + z * 1))) (stS t a b 3) = some (nI z2, stS t a b 3) ∧
    ifB (eqF (.ofNat x) (.ofNat z2)) (ifB (ltF (.ofNat 0) (.ofNat x)) (Q2 (.ret, some (.bool true))) (Q (.normal, fr38 s [(7, nI x), (8, nI y), (9, nI i), (10, nI z2), (11, .int .i64 (wrapF .i64 (.ofNat k + .ofNat 1)))], stS t a b 3)))
      (Q (.normal, fr38 s [(7, nI x), (8, nI y), (9, nI i), (10, nI z2), (11, .int .i64 (wrapF .i64 (.ofNat k + .ofNat 1)))], stS t a b 3))) =
  (tSR t s a b x y i z k z2).allY (mixQ E Try.f38 [0, 4, 5, 6, 7, 8, 9, 10, 11] [0, 1, 2] Q Q2) (.v (.ptr (some (0, 0 + z * 1)), stS t a b 3) (.v (nI z2, stS t a b 3) (.b (.b .nil .nil) .nil))) := by kernel_rfl
theorem vcS4 (t : List Nat) (s : AV) (a b : Ln) (x y i z k : Nat) (Q : Exit × AFr × ASt → Prop) : Q (.normal, fr38 s [(7, nI x), (8, nI y), (9, .int .i64 (wrapF .i64 (.ofNat i + .ofNat 1)))], stS t a b 3) = (tS4 t s a b x y i z k).allY (fun r => Q (canR [0, 4, 5, 6, 7, 8, 9] [0, 1, 2] r)) .nil := by kernel_rfl
theorem vcS5 (t : List Nat) (s : AV) (a b : Ln) (x y i : Nat) (Q : Exit × Option AV → Prop) : Q (.ret, some (.bool false)) = (tS5 t s a b x y i).allY (fun r => Q (r.1, ans (leaveA E Try.f38 r.2.1 r.2.2))) .nil := by kernel_rfl
theorem c38a : dropC 1 c38 = .seq (.seq s38 (.block 0 (.loop LO))) (dropC 2 c38) := by kernel_rfl
theorem c38b : LO = .seq HO (.seq (.block 1 BX) r4) := by kernel_rfl
theorem c38c : dropC 2 BX = .block 2 (.loop LI) := by kernel_rfl
theorem c38d : LI = .seq HI RI := by kernel_rfl
theorem c38e : hasC 2 BX = true := by kernel_rfl
end Go.Proofs.Ytidmijpfoodkoaa.utr
end

section
open Go Go.Ax Go.Proofs.Ytidmijpfoodkoaa Go.Proofs.Ytidmijpfoodkoaa.Ut
namespace Go.Proofs.Ytidmijpfoodkoaa.utr
theorem objS {t : List Nat} {a b : Ln} {n : Nat} : StP [0, 1, 2] (stS t a b n) (oS t a b) :=
  .cons 0 _ rfl (by kernel_rfl) (RenO.row (trow_refs t)) <| .cons 1 _ rfl (by kernel_rfl) (RenO.row (lv_refs a)) <| .cons 2 _ rfl (by kernel_rfl) (RenO.row (lv_refs b)) .nil
theorem toSO {t : List Nat} {a b : Ln} {n m x y i : Nat} {c : Cap} : Wk 1 (frO (sl m c) x y i) (stS t a b n) (frO (sl m c) x y i) (stS t a b 3) :=
  Wk.heldX [0, 1, 2] rfl rfl [0, 4, 5, 6, 7, 8, 9] (by kernel_rfl) objS
theorem toSI {t : List Nat} {a b : Ln} {n m x y i z k : Nat} {c : Cap} : Wk 1 (frI (sl m c) x y i z k) (stS t a b n) (frI (sl m c) x y i z k) (stS t a b 3) :=
  Wk.heldX [0, 1, 2] rfl rfl [0, 4, 5, 6, 7, 8, 9, 10, 11] (by kernel_rfl) objS
theorem toS0 {t : List Nat} {a b : Ln} {n m x y : Nat} {c : Cap} : Wk 1 (fr38 (sl m c) [(7, nI x), (8, nI y)]) (stS t a b n) (fr38 (sl m c) [(7, nI x), (8, nI y)]) (stS t a b 3) :=
  Wk.heldX [0, 1, 2] rfl rfl [0, 4, 5, 6, 7, 8] (by kernel_rfl) objS
theorem drop_cons {l : List Nat} {k : Nat} (h : k < l.length) : ∃ f, l.drop k = f :: l.drop (k + 1) := ⟨l[k], List.drop_eq_getElem_cons h⟩
theorem drop_nil {l : List Nat} {k : Nat} (h : l.length ≤ k) : l.drop k = [] := List.drop_eq_nil_of_le h
theorem eN_len (l : Ln) : (eN l).length ≤ 3 := by
  obtain ⟨c, b, h⟩ := l
  cases b <;> cases h <;> simp [eN, Hs.ns]
def iI (l : List Nat) : List Int := l.map Int.ofNat
def RetS (v : Bool) (r : Exit × AFr × ASt) : Prop := r.1 = .ret ∧ ans (leaveA E Try.f38 r.2.1 r.2.2) = some (.bool v)
section
variable {t : List Nat} {c : Cap} {a b : Ln}
/-- the inner round -/
def IQ (t : List Nat) (s : AV) (a b : Ln) (x y i z k : Nat) (r : Exit × AFr × ASt) : Prop :=
  (∃ f, (eN b).drop k = f :: (eN b).drop (k + 1) ∧ k < (eN b).length ∧ ((x = f ∧ 0 < x ∧ RetS true r) ∨ (¬ (x = f ∧ 0 < x) ∧ Stops 1 .normal (frI s x y i f (k + 1)) (stS t a b 3) r))) ∨
  ((eN b).drop k = [] ∧ Stops 1 (.exit 2) (frI s x y i z k) (stS t a b 3) r)
theorem roundI {x y i z k : Nat} (hk : k ≤ (eN b).length) (hz : z < t.length) (hp : Pre t z ((eN b).drop k)) : Trip Try.prog 1 none LI (frI (sl t.length c) x y i z k) (stS t a b 3) (IQ t (sl t.length c) a b x y i z k) := by
  rw [c38d]
  have hw := wrap_succ (i := k) (by have := eN_len b; omega)
  refine Trip.seq (R := fun r => (k < (eN b).length ∧ Stops 1 .normal (frI (sl t.length c) x y i z k) (stS t a b 3) r) ∨ (k = (eN b).length ∧ Stops 1 (.exit 2) (frI (sl t.length c) x y i z k) (stS t a b 3) r)) ?_ (fun fr' st' hq => ?_) (fun e fr' st' hne hq => ?_)
  · refine (Trip.runY Eok noSum_ok (Eq.mp (vcSI t _ a b x y i z k (fun r => (k < (eN b).length ∧ Stops 1 .normal (frI (sl t.length c) x y i z k) (stS t a b 3) r) ∨ (k = (eN b).length ∧ Stops 1 (.exit 2) (frI (sl t.length c) x y i z k) (stS t a b 3) r))) ?_)).mono fun r hr => hr.imp (fun h => ⟨h.1, h.2.can⟩) (fun h => ⟨h.1, h.2.can⟩)
    rw [eld_len, ltF_nn]
    exact ifB_mk (fun h => .inl ⟨by simpa using h, rfl, toSI⟩) (fun h => .inr ⟨by simp at h; omega, rfl, toSI⟩)
  · rcases hq with ⟨q1, _, hw2⟩ | ⟨q1, q2, _⟩
    · refine Trip.less hw2 ?_
      obtain ⟨f, hf⟩ := drop_cons q1
      rw [hf] at hp
      obtain ⟨p1, p2, p3⟩ := hp
      refine Trip.runM Eok noSum_ok (Eq.mp (vcSR t _ a b x y i z k f (fun r => ¬ (x = f ∧ 0 < x) ∧ Stops 1 .normal (frI (sl t.length c) x y i f (k + 1)) (stS t a b 3) r) (fun q => x = f ∧ 0 < x ∧ q = (.ret, some (.bool true)))) ?_) (fun r hr hq => .inl ⟨f, hf, q1, .inl ⟨hq.1, hq.2.1, hr, (Prod.mk.inj hq.2.2).2⟩⟩) (fun r hr hq => .inl ⟨f, hf, q1, .inr ⟨hq.1, hq.2.can⟩⟩)
      rw [hw]
      refine ⟨still_idx sl79 hz, load_at (rw := false) ce3 (by kernel_rfl) (by rw [trow_get hz, p1]), ifB_mk (fun h1 => ifB_mk (fun h2 => ⟨Int.ofNat.inj (eqF_t h1), by simpa using ltF_t h2, rfl⟩) (fun h2 => ⟨fun h => ?_, rfl, Wk.refl _ _ _⟩)) (fun h1 => ⟨fun h => ?_, rfl, Wk.refl _ _ _⟩)⟩
      · rw [ltF_nn] at h2; simp at h2; omega
      · exact eqF_f h1 (congrArg Int.ofNat h.1)
    · cases q2
  · rcases hq with ⟨q1, q2, _⟩ | ⟨q1, q2⟩
    · exact absurd q2 hne
    · exact .inr ⟨drop_nil (by omega), q2⟩
theorem memI_cons (x f : Nat) (l : List Nat) : memI (.ofNat x) (iI (f :: l)) = (decide (x = f) || memI (.ofNat x) (iI l)) := by
  show (bif eqF (.ofNat x) (.ofNat f) then true else memI (.ofNat x) (iI l)) = _
  by_cases h : x = f
  · subst h
    have : eqF (.ofNat x) (.ofNat x) = true := by rw [eqF_eq]; simp
    rw [this]; simp
  · have : eqF (.ofNat x) (.ofNat f) = false := by rw [eqF_eq]; simp; omega
    rw [this]; simp [h]
/-- the inner loop -/
def JQ (t : List Nat) (s : AV) (a b : Ln) (x y i : Nat) (r : Exit × AFr × ASt) : Prop :=
  (memI (.ofNat x) (iI (eN b)) = true ∧ RetS true r) ∨ (memI (.ofNat x) (iI (eN b)) = false ∧ ∃ z k, Stops 1 .normal (frI s x y i z k) (stS t a b 3) r)
theorem loopI (ht : Tree t) {x y i : Nat} (hx : 0 < x) (hy : y < t.length) (hp : Pre t y (eN b)) : Trip Try.prog 1 none (.block 2 (.loop LI)) (frI (sl t.length c) x y i y 0) (stS t a b 3) (JQ t (sl t.length c) a b x y i) := by
  refine Trip.block (Trip.loop (fun m fr st => ∃ z k, k ≤ (eN b).length ∧ m = (eN b).length - k ∧ z < t.length ∧ Pre t z ((eN b).drop k) ∧ memI (.ofNat x) (iI (eN b)) = memI (.ofNat x) (iI ((eN b).drop k)) ∧ fr = frI (sl t.length c) x y i z k ∧ st = stS t a b 3) ?_ (eN b).length ⟨y, 0, by omega, by omega, hy, hp, rfl, rfl, rfl⟩)
  rintro m fr st ⟨z, k, hk, rfl, hz, hpz, hm, rfl, rfl⟩
  refine (roundI hk hz hpz).mono ?_
  rintro ⟨e, fr', st'⟩ (⟨f, q1, q2, ⟨q3, q4, q5, q6⟩ | ⟨q3, q4, q5⟩⟩ | ⟨q1, q3, q4⟩)
  · simp only at q5 q6
    subst q5
    refine .inl ⟨?_, rfl, q6⟩
    rw [hm, q1, memI_cons]; simp [q3]
  · simp only at q4 q5
    subst q4
    rw [q1] at hpz hm
    have hf := Pre.lt ht hz hpz f (by simp)
    refine ⟨(eN b).length - (k + 1), _, _, by omega, q5, f, k + 1, by omega, rfl, hf.2, hpz.2.2, ?_, rfl, rfl⟩
    rw [hm, memI_cons]
    have : ¬ x = f := fun h => q3 ⟨h, hx⟩
    simp [this]
  · simp only at q3 q4
    subst q3
    rw [q1] at hm
    exact ⟨fun _ => .inr ⟨by rw [hm]; rfl, z, k, rfl, q4⟩, fun h => absurd rfl h⟩
def OQ (t : List Nat) (s : AV) (a b : Ln) (x y i : Nat) (r : Exit × AFr × ASt) : Prop :=
  (∃ f, (eN a).drop i = f :: (eN a).drop (i + 1) ∧ i < (eN a).length ∧ ((memI (.ofNat f) (iI (eN b)) = true ∧ RetS true r) ∨ (memI (.ofNat f) (iI (eN b)) = false ∧ Stops 1 .normal (frO s f y (i + 1)) (stS t a b 3) r))) ∨
  ((eN a).drop i = [] ∧ Stops 1 (.exit 0) (frO s x y i) (stS t a b 3) r)
theorem roundO (ht : Tree t) {x y i : Nat} (hi : i ≤ (eN a).length) (hx : x < t.length) (hpx : Pre t x ((eN a).drop i)) (hy : y < t.length) (hp : Pre t y (eN b)) :
    Trip Try.prog 1 none LO (frO (sl t.length c) x y i) (stS t a b 3) (OQ t (sl t.length c) a b x y i) := by
  rw [c38b]
  have hw := wrap_succ (i := i) (by have := eN_len a; omega)
  refine Trip.seq (R := fun r => (i < (eN a).length ∧ Stops 1 .normal (frO (sl t.length c) x y i) (stS t a b 3) r) ∨ (i = (eN a).length ∧ Stops 1 (.exit 0) (frO (sl t.length c) x y i) (stS t a b 3) r)) ?_ (fun fr' st' hq => ?_) (fun e fr' st' hne hq => ?_)
  · refine (Trip.runY Eok noSum_ok (Eq.mp (vcSH t _ a b x y i (fun r => (i < (eN a).length ∧ Stops 1 .normal (frO (sl t.length c) x y i) (stS t a b 3) r) ∨ (i = (eN a).length ∧ Stops 1 (.exit 0) (frO (sl t.length c) x y i) (stS t a b 3) r))) ?_)).mono fun r hr => hr.imp (fun h => ⟨h.1, h.2.can⟩) (fun h => ⟨h.1, h.2.can⟩)
    rw [eld_len, ltF_nn]
    exact ifB_mk (fun h => .inl ⟨by simpa using h, rfl, toSO⟩) (fun h => .inr ⟨by simp at h; omega, rfl, toSO⟩)
  · rcases hq with ⟨q1, _, hw2⟩ | ⟨q1, q2, _⟩
    · refine Trip.less hw2 ?_
      obtain ⟨f, hf⟩ := drop_cons q1
      rw [hf] at hpx
      obtain ⟨p1, p2, p3⟩ := hpx
      refine Trip.seq (R := fun r => JQ t (sl t.length c) a b f y i r) ?_ (fun fr' st' hq => ?_) (fun e fr' st' hne hq => ?_)
      · refine Trip.block ?_
        refine Trip.preY Eok noSum_ok (k := 2) c38e (Q1 := fun r => r = (.normal, frI (sl t.length c) f y i y 0, stS t a b 3)) (Eq.mp (vcSB t _ a b x y i f fun r => r = (.normal, frI (sl t.length c) f y i y 0, stS t a b 3)) ⟨still_idx sl79 hx, load_at (rw := false) ce3 (by kernel_rfl) (by rw [trow_get hx, p1]), rfl⟩) (fun F S hq => ?_) (fun r hne hq => absurd (congrArg (·.1) hq) hne)
        cases hq
        rw [c38c]
        refine (loopI ht p2 hy hp).mono ?_
        rintro ⟨e, fr', st'⟩ (⟨g1, g2, g3⟩ | ⟨g1, z, k, g2, g3⟩)
        · simp only at g2
          subst g2
          exact .inl ⟨g1, rfl, g3⟩
        · simp only at g2
          subst g2
          exact .inr ⟨g1, z, k, rfl, g3⟩
      · rcases hq with ⟨g1, g2, g3⟩ | ⟨g1, z, k, g2, g3⟩
        · cases g2
        · refine Trip.less g3 ((Trip.runY Eok noSum_ok (Eq.mp (vcS4 t _ a b f y i z k (Stops 1 .normal (frO (sl t.length c) f y (i + 1)) (stS t a b 3))) ?_)).mono fun r hr => .inl ⟨f, hf, q1, .inr ⟨g1, hr.can⟩⟩)
          rw [hw]
          exact ⟨rfl, Wk.refl _ _ _⟩
      · rcases hq with ⟨g1, g2⟩ | ⟨g1, z, k, g2, g3⟩
        · exact .inl ⟨f, hf, q1, .inl ⟨g1, g2⟩⟩
        · exact absurd g2 hne
    · cases q2
  · rcases hq with ⟨q1, q2, _⟩ | ⟨q1, q2⟩
    · exact absurd q2 hne
    · exact .inr ⟨drop_nil (by omega), q2⟩
theorem anyI_cons (fs : List Int) (f : Nat) (l : List Nat) : anyI fs (iI (f :: l)) = (memI (.ofNat f) fs || anyI fs (iI l)) := by
  show (bif memI (.ofNat f) fs then true else anyI fs (iI l)) = _
  cases memI (.ofNat f) fs <;> rfl
def shV (a b : Ln) : Bool := anyI (iI (eN b)) (iI (eN a))
theorem sh_at (ht : Tree t) (ha : a.c + 1 < t.length) (hb : b.c + 1 < t.length) (hl : t.length ≤ 100) (pa : Pre t (a.c + 1) (eN a)) (pb : Pre t (b.c + 1) (eN b)) :
    AtMem Try.prog 38 [sl t.length c, .agg (lv a), .agg (lv b)] (stU t) (.bool (shV a b)) := by
  refine AtMem.of_trip Eok (fn := Try.f38) (by kernel_rfl) (c := c38) (by kernel_rfl) (by kernel_rfl) ?_
  have e : ({ m := putArgs [sl t.length c, .agg (lv a), .agg (lv b)] 0 .e, n := Try.f38.ntmps, defs := [] } : AFr) = F38 (sl t.length c) a b := by kernel_rfl
  rw [e]
  have e2 : (stU t).next = 1 := rfl
  rw [e2]
  refine Trip.preY Eok noSum_ok (k := 1) (by kernel_rfl) (Q1 := Stops 1 .normal (fr38 (sl t.length c) [(7, nI (a.c + 1)), (8, nI (b.c + 1))]) (stS t a b 3)) (Eq.mp (vcS0 t _ a b (Stops 1 .normal (fr38 (sl t.length c) [(7, nI (a.c + 1)), (8, nI (b.c + 1))]) (stS t a b 3))) ⟨conv_at (by omega) _, conv_at (by omega) _, rfl, toS0⟩) (fun F S hq => Trip.less hq.2 ?_) (fun r hne hq => absurd hq.1 hne)
  rw [c38a]
  refine Trip.seq (R := fun r => (shV a b = false ∧ ∃ x y i, Stops 1 .normal (frO (sl t.length c) x y i) (stS t a b 3) r) ∨ (shV a b = true ∧ RetS true r)) ?_ (fun fr' st' hq => ?_) (fun e fr' st' hne hq => ?_)
  · refine Trip.seq (R := Stops 1 .normal (frO (sl t.length c) (a.c + 1) (b.c + 1) 0) (stS t a b 3)) ((Trip.runY Eok noSum_ok (Eq.mp (vcS1 t _ a b _ _ (Stops 1 .normal (frO (sl t.length c) (a.c + 1) (b.c + 1) 0) (stS t a b 3))) ⟨rfl, Wk.refl _ _ _⟩)).mono fun r hr => hr.can) (fun fr' st' hq => Trip.less hq.2 ?_) (fun e fr' st' hne hq => absurd hq.1 hne)
    refine Trip.block (Trip.loop (fun m fr st => ∃ x i, i ≤ (eN a).length ∧ m = (eN a).length - i ∧ x < t.length ∧ Pre t x ((eN a).drop i) ∧ shV a b = anyI (iI (eN b)) (iI ((eN a).drop i)) ∧ fr = frO (sl t.length c) x (b.c + 1) i ∧ st = stS t a b 3) ?_ (eN a).length ⟨a.c + 1, 0, by omega, by omega, ha, pa, rfl, rfl, rfl⟩)
    rintro m fr st ⟨x, i, hi, rfl, hx, hpx, hm, rfl, rfl⟩
    refine (roundO ht hi hx hpx hb pb).mono ?_
    rintro ⟨e, fr', st'⟩ (⟨f, q1, q2, ⟨q3, q5, q6⟩ | ⟨q3, q4, q5⟩⟩ | ⟨q1, q3, q4⟩)
    · simp only at q5 q6
      subst q5
      refine .inr ⟨?_, rfl, q6⟩
      rw [hm, q1, anyI_cons, q3]; rfl
    · simp only at q4 q5
      subst q4
      rw [q1] at hpx hm
      have hf := Pre.lt ht hx hpx f (by simp)
      refine ⟨(eN a).length - (i + 1), _, _, by omega, q5, f, i + 1, by omega, rfl, hf.2, hpx.2.2, ?_, rfl, rfl⟩
      rw [hm, anyI_cons, q3]; rfl
    · simp only at q3 q4
      subst q3
      rw [q1] at hm
      exact ⟨fun _ => .inl ⟨by rw [hm]; rfl, x, b.c + 1, i, rfl, q4⟩, fun h => absurd rfl h⟩
  · rcases hq with ⟨q1, x, y, i, _, q3⟩ | ⟨_, q2, _⟩
    · refine Trip.less q3 (Trip.runY Eok noSum_ok (Eq.mp (vcS5 t _ a b x y i fun q' => (q'.1 = .normal ∨ q'.1 = .ret) ∧ q'.2 = some (.bool (shV a b))) ⟨.inr rfl, by rw [q1]⟩))
    · cases q2
  · rcases hq with ⟨q1, x, y, i, q2, q3⟩ | ⟨q1, q2, q3⟩
    · exact absurd q2 hne
    · exact ⟨.inr q2, by rw [q1]; exact q3⟩
end
end Go.Proofs.Ytidmijpfoodkoaa.utr
end

section
open Go Go.Ax Go.Proofs.Ytidmijpfoodkoaa Go.Proofs.Ytidmijpfoodkoaa.Ut
namespace Go.Proofs.Ytidmijpfoodkoaa.utr
theorem nI_inj {x y : Nat} (h : nI x = nI y) : x = y := by
  simp only [nI, AV.int.injEq, true_and] at h
  exact Int.ofNat.inj h
theorem trow_inj : ∀ {t u : List Nat}, trow t = trow u → t = u
  | [], [], _ => rfl
  | [], y :: ys, h => by cases h
  | x :: xs, [], h => by cases h
  | x :: xs, y :: ys, h => by
    have h1 : nI x :: trow xs = nI y :: trow ys := h
    rw [List.cons.injEq] at h1
    rw [nI_inj h1.1, trow_inj h1.2]
theorem renVs_trow (ids : List Nat) : ∀ l : List Nat, renVs ids (trow l) = some (trow l)
  | [] => rfl
  | x :: xs => by
    show renVs ids (nI x :: trow xs) = _
    simp only [renVs, nI, renV, renVs_trow ids xs]
    rfl
/-! ### above and shared, as summaries -/
def RowAtS (st : ASt) (i n : Nat) (t : List Nat) : Prop := t.length = n ∧ Tree t ∧ n ≤ 100 ∧ ∃ rw, st.h.get i = some (.cells (trow t) rw)
theorem RowAtS.uniq {st : ASt} {i n : Nat} {t u : List Nat} (h : RowAtS st i n t) (g : RowAtS st i n u) : t = u := by
  obtain ⟨_, _, _, r1, h1⟩ := h
  obtain ⟨_, _, _, r2, h2⟩ := g
  rw [h1] at h2
  simp only [Option.some.injEq, AO.cells.injEq] at h2
  exact trow_inj h2.1
def UpAt (st : ASt) (i n p q : Nat) (v : AV) : Prop := ∃ t, RowAtS st i n t ∧ q < n ∧ v = upV t p q
def ShAt (st : ASt) (i n : Nat) (a b : Ln) (v : AV) : Prop := ∃ t, RowAtS st i n t ∧ a.c + 1 < n ∧ b.c + 1 < n ∧ Pre t (a.c + 1) (eN a) ∧ Pre t (b.c + 1) (eN b) ∧ v = .bool (shV a b)
theorem UpAt.uniq {st : ASt} {i n p q : Nat} {v w : AV} (h : UpAt st i n p q v) (g : UpAt st i n p q w) : v = w := by
  obtain ⟨t, h1, _, rfl⟩ := h
  obtain ⟨u, g1, _, rfl⟩ := g
  rw [h1.uniq g1]
open Classical in
noncomputable def sumUp : CallT := fun f args st => bif Nat.beq 36 f then (match args with
  | [.slice (some (i, 0)) n _, .int .i64 (.ofNat p), .int .i64 (.ofNat q)] => if h : ∃ v, UpAt st i n p q v then some (h.choose, st) else none
  | _ => none) else none
open Classical in
noncomputable def sumSh : CallT := fun f args st => bif Nat.beq 38 f then (match args with
  | [.slice (some (i, 0)) n _, .agg xs, .agg ys] => if h : ∃ v, ∃ a b, xs = lv a ∧ ys = lv b ∧ ShAt st i n a b v then some (h.choose, st) else none
  | _ => none) else none
theorem tup_VR {ι κ : Ren} {l : List AV} {x : Value} (hp : l.all pureV = true) (h : VR ι (.tuple l) x) : VR κ (.tuple l) x := by
  cases h with
  | tuple cs cs' hs h => exact .tuple _ cs' hs (fun i y y' hy hy' => pureV_VR (List.all_eq_true.1 hp y (List.mem_of_getElem? hy)) (h i y y' hy hy'))
theorem pureUp (t : List Nat) (p q : Nat) (ι κ : Ren) (x : Value) (h : VR ι (upV t p q) x) : VR κ (upV t p q) x := by
  unfold upV at h ⊢
  cases e : abv t p q with
  | none => rw [e] at h; exact tup_VR rfl h
  | some f => rw [e] at h; exact tup_VR rfl h
theorem sumUp_ok : CallsOK Try.prog sumUp := by
  intro B w0 f args st r h ι w args' hsr hv
  unfold sumUp at h
  cases hf : Nat.beq 36 f
  · simp [hf] at h
  simp only [hf, cond_true] at h
  have := nbeq hf
  subst this
  split at h
  · rename_i i n c p q
    split at h
    · rename_i hex
      simp only [Option.some.injEq] at h
      subst h
      obtain ⟨t, ⟨h1, h2, h3, rw', h4⟩, h5, h6⟩ := hex.choose_spec
      rw [h6]
      subst h1
      exact local_roV (up_at h2 (c := c) h5 h3) (pureUp _ _ _) hsr (ids := [i]) (view1 h4 (renVs_trow _ _)) (by simp [renVs, renV, idxN, nI]) hv
    · cases h
  · cases h
theorem sumSh_ok : CallsOK Try.prog sumSh := by
  intro B w0 f args st r h ι w args' hsr hv
  unfold sumSh at h
  cases hf : Nat.beq 38 f
  · simp [hf] at h
  simp only [hf, cond_true] at h
  have := nbeq hf
  subst this
  split at h
  · rename_i i n c xs ys
    split at h
    · rename_i hex
      simp only [Option.some.injEq] at h
      subst h
      obtain ⟨a, b, e1, e2, t, ⟨h1, h2, h3, rw', h4⟩, h5, h6, h7, h8, h9⟩ := hex.choose_spec
      rw [h9]
      subst h1
      subst e1
      subst e2
      exact local_ro (sh_at h2 (c := c) h5 h6 h3 h7 h8) rfl hsr (ids := [i]) (view1 h4 (renVs_trow _ _)) (by simp [renVs, renV, idxN, sl, renVs_lv]) hv
    · cases h
  · cases h
theorem known : MemoOK Try.prog ⟨35, [], .bool true⟩ := memo_ok (n := 80) Eok noSum_ok Try.call35 (by kernel_rfl) (by kernel_rfl)
noncomputable def sm : CallT := orC (sumC [⟨35, [], .bool true⟩]) (orC sumCmp (orC sumUp sumSh))
theorem sm_ok : CallsOK Try.prog sm := orC_ok (sumC_ok (l := [⟨35, [], .bool true⟩]) ⟨known, trivial⟩) (orC_ok sumCmp_ok (orC_ok sumUp_ok sumSh_ok))
theorem call_up {st : ASt} {i n p q m : Nat} {c : Cap} {t : List Nat} (hr : RowAtS st i n t) (hq : q < n) : (M E (drawA E) sm (m + 1)).call 36 [.slice (some (i, 0)) n c, .int .i64 (.ofNat p), .int .i64 (.ofNat q)] st = some (upV t p q, st) := by
  have h0 : sumUp 36 [.slice (some (i, 0)) n c, .int .i64 (.ofNat p), .int .i64 (.ofNat q)] st = some (upV t p q, st) := by
    unfold sumUp
    simp only [Nat.beq_refl, cond_true]
    have hex : ∃ v, UpAt st i n p q v := ⟨_, t, hr, hq, rfl⟩
    rw [dif_pos hex, UpAt.uniq hex.choose_spec ⟨t, hr, hq, rfl⟩]
  have hs : sm 36 [.slice (some (i, 0)) n c, .int .i64 (.ofNat p), .int .i64 (.ofNat q)] st = some (upV t p q, st) := by
    show (match sumUp 36 [.slice (some (i, 0)) n c, .int .i64 (.ofNat p), .int .i64 (.ofNat q)] st with | some r => some r | none => sumSh 36 [.slice (some (i, 0)) n c, .int .i64 (.ofNat p), .int .i64 (.ofNat q)] st) = _
    rw [h0]
  show (match sm 36 _ st with | some r => some r | none => callF E (M E (drawA E) sm m).ex 36 _ st) = _
  rw [hs]
theorem lv_inj {a b : Ln} (h : lv a = lv b) : a = b := by
  obtain ⟨a, ab, ah⟩ := a
  obtain ⟨b, bb, bh⟩ := b
  cases ab <;> cases bb <;> cases ah <;> cases bh <;> simp [lv, bI, Hs.i0, Hs.i1] at h <;> (try omega) <;> simp <;> omega
theorem call_sh {st : ASt} {i n m : Nat} {c : Cap} {t : List Nat} {a b : Ln} (hr : RowAtS st i n t) (ha : a.c + 1 < n) (hb : b.c + 1 < n) (pa : Pre t (a.c + 1) (eN a)) (pb : Pre t (b.c + 1) (eN b)) :
    (M E (drawA E) sm (m + 1)).call 38 [.slice (some (i, 0)) n c, .agg (lv a), .agg (lv b)] st = some (.bool (shV a b), st) := by
  have hs : sm 38 [.slice (some (i, 0)) n c, .agg (lv a), .agg (lv b)] st = some (.bool (shV a b), st) := by
    show sumSh 38 [.slice (some (i, 0)) n c, .agg (lv a), .agg (lv b)] st = _
    unfold sumSh
    simp only [Nat.beq_refl, cond_true]
    have hex : ∃ v, ∃ a' b', lv a = lv a' ∧ lv b = lv b' ∧ ShAt st i n a' b' v := ⟨_, a, b, rfl, rfl, t, hr, ha, hb, pa, pb, rfl⟩
    rw [dif_pos hex]
    obtain ⟨a', b', e1, e2, _, _, _, _, _, _, h9⟩ := hex.choose_spec
    rw [h9, lv_inj e1, lv_inj e2]
  show (match sm 38 _ st with | some r => some r | none => callF E (M E (drawA E) sm m).ex 38 _ st) = _
  rw [hs]
end Go.Proofs.Ytidmijpfoodkoaa.utr
end

section
open Go Go.Ax Go.Proofs.Ytidmijpfoodkoaa Go.Proofs.Ytidmijpfoodkoaa.Ut
namespace Go.Proofs.Ytidmijpfoodkoaa.utr
noncomputable def c8 : Code := Option.getD Try.f8.body .skip
noncomputable def rA : Code := dropC 3 c8
noncomputable def r5 : Code := seqL (seqL rA)
noncomputable def B8 : Code := lopB (blkB (seqR (seqL rA)))
noncomputable def rZ : Code := seqR rA
noncomputable def rT : Code := seqL B8
noncomputable def X8 : Code := blkB (seqL (seqR B8))
noncomputable def r7 : Code := seqR (seqR B8)
noncomputable def D8 : Code := dropC 0 X8
def sl1 (n : Nat) (c : Cap) : AV := .slice (some (1, 0)) n c
noncomputable def fr8 (vl : AV) (n : Nat) (c : Cap) (x : List (Nat × AV)) : AFr := xFr ([(0, vl), (3, sl1 n c), (4, .ptr (some (2, 0)))] ++ x) 184
def oL (o0 : AO) (t : List Nat) (a b : Ln) : List (Nat × AO) := [(0, o0), (1, .cells (trow t) true), (2, .cells (lv a ++ lv b) true)]
noncomputable def stL (o0 : AO) (t : List Nat) (a b : Ln) (n : Nat) : ASt := mkSt (oL o0 t a b) n
noncomputable def F8 (vl : AV) : AFr := { m := putArgs [vl] 0 .e, n := 184, defs := [] }
def l1 : Ln := ⟨0, none, .z⟩
def flC2 (l : List Nat) (b : List Nat) : Fl := ⟨l, [84], b, []⟩
def sl1n (k n : Nat) : AV := .slice (some (k, 0)) (n + 1) (.rest 1)
noncomputable def tX0n (vl : AV) (o0 : AO) (t : List Nat) (b : Ln) (c : Cap) (i m x : Nat) (h : Hs) : Tr (Exit × AFr × ASt) := (TM E sm [] fl0 80).ex (flC2 [36, 37, 44, 45, 50, 58, 59, 63, 65, 68, 69, 77, 78] []) none (preC 0 X8) (fr8 vl t.length c [(5, nI i)]) (stL o0 t ⟨m, none, h⟩ b 3)
noncomputable def tX0s (vl : AV) (o0 : AO) (t : List Nat) (b : Ln) (c : Cap) (i m x : Nat) (h : Hs) : Tr (Exit × AFr × ASt) := (TM E sm [] fl0 80).ex (flC2 [36, 37, 44, 45, 50, 58, 59, 63, 65, 68, 69, 77, 78] []) none (preC 0 X8) (fr8 vl t.length c [(5, nI i)]) (stL o0 t ⟨m, some x, h⟩ b 3)
noncomputable def tX1n (vl : AV) (o0 : AO) (t : List Nat) (b : Ln) (c : Cap) (i m x : Nat) (h : Hs) : Tr (Exit × AFr × ASt) := (TM E sm [] fl0 80).ex (flC2 [36, 37, 44, 45, 50, 58, 59, 63, 65, 68, 69, 77, 78] []) none (preC 0 X8) (fr8 vl t.length c [(5, nI i)]) (stL o0 t b ⟨m, none, h⟩ 3)
noncomputable def tX1s (vl : AV) (o0 : AO) (t : List Nat) (b : Ln) (c : Cap) (i m x : Nat) (h : Hs) : Tr (Exit × AFr × ASt) := (TM E sm [] fl0 80).ex (flC2 [36, 37, 44, 45, 50, 58, 59, 63, 65, 68, 69, 77, 78] []) none (preC 0 X8) (fr8 vl t.length c [(5, nI i)]) (stL o0 t b ⟨m, some x, h⟩ 3)
noncomputable def tX2n (vl : AV) (o0 : AO) (t : List Nat) (b : Ln) (c : Cap) (i m x : Nat) (h : Hs) : Tr (Exit × AFr × ASt) := (TM E sm [] fl0 80).ex (flC2 [36, 37, 44, 45, 50, 58, 59, 63, 65, 68, 69, 77, 78] []) none (preC 0 X8) (fr8 vl t.length c [(5, nI i)]) (stL o0 t ⟨m, none, h⟩ b 3)
noncomputable def tX2s (vl : AV) (o0 : AO) (t : List Nat) (b : Ln) (c : Cap) (i m x : Nat) (h : Hs) : Tr (Exit × AFr × ASt) := (TM E sm [] fl0 80).ex (flC2 [36, 37, 44, 45, 50, 58, 59, 63, 65, 68, 69, 77, 78] []) none (preC 0 X8) (fr8 vl t.length c [(5, nI i)]) (stL o0 t ⟨m, some x, h⟩ b 3)
noncomputable def tX3n (vl : AV) (o0 : AO) (t : List Nat) (b : Ln) (c : Cap) (i m x : Nat) (h : Hs) : Tr (Exit × AFr × ASt) := (TM E sm [] fl0 80).ex (flC2 [36, 37, 44, 45, 50, 58, 59, 63, 65, 68, 69, 77, 78] []) none (preC 0 X8) (fr8 vl t.length c [(5, nI i)]) (stL o0 t b ⟨m, none, h⟩ 3)
noncomputable def tX3s (vl : AV) (o0 : AO) (t : List Nat) (b : Ln) (c : Cap) (i m x : Nat) (h : Hs) : Tr (Exit × AFr × ASt) := (TM E sm [] fl0 80).ex (flC2 [36, 37, 44, 45, 50, 58, 59, 63, 65, 68, 69, 77, 78] []) none (preC 0 X8) (fr8 vl t.length c [(5, nI i)]) (stL o0 t b ⟨m, some x, h⟩ 3)
noncomputable def tX0k (vl : AV) (o0 : AO) (b : Ln) (i m : Nat) (h : Hs) : Tr (Exit × AFr × ASt) := (TM E sm [] fl0 80).ex (flC2 [36, 37, 44, 45, 58, 59, 63, 68, 69, 77, 78] []) none (preC 0 X8) (fr8 vl 2 (.known 2) [(5, nI i)]) (stL o0 [0, 0] ⟨m, none, h⟩ b 3)
noncomputable def tX1k (vl : AV) (o0 : AO) (b : Ln) (i m : Nat) (h : Hs) : Tr (Exit × AFr × ASt) := (TM E sm [] fl0 80).ex (flC2 [36, 37, 44, 45, 58, 59, 63, 68, 69, 77, 78] []) none (preC 0 X8) (fr8 vl 2 (.known 2) [(5, nI i)]) (stL o0 [0, 0] b ⟨m, none, h⟩ 3)
def condT : Code → Code
  | .cond _ x _ => x
  | _ => .skip
def condE : Code → Code
  | .cond _ _ x => x
  | _ => .skip
noncomputable def X3 : Code := blkB (seqL (dropC 6 D8))
noncomputable def Y1 : Code := condE (seqR X3)
noncomputable def Y2 : Code := condE (seqR Y1)
noncomputable def Y3 : Code := condE (seqR Y2)
noncomputable def D3 : Code := seqR (dropC 6 D8)
noncomputable def frD (vl : AV) (n : Nat) (c : Cap) (i v p q fa : Nat) (ua : Bool) (fb : Nat) (ub : Bool) (w : Nat) : AFr := fr8 vl n c [(5, nI i), (10, .ptr (some (3, 0))), (11, .ptr (some (4, 0))), (12, nI v), (13, nI p), (14, nI q), (15, nI fa), (16, .bool ua), (17, nI fb), (18, .bool ub), (19, nI w)]
noncomputable def stD (o0 : AO) (t : List Nat) (a b : Ln) (n : Nat) : ASt := mkSt (oL o0 t a b ++ [(3, .cells (lv a) true), (4, .cells (lv b) true)]) n
noncomputable def tD1 (vl : AV) (o0 : AO) (t : List Nat) (a b : Ln) (c : Cap) (i fa fb : Nat) (ua ub : Bool) : Tr (Exit × AFr × ASt) := (TM E sm [] fl0 80).ex ⟨[94, 97, 100, 123, 130], [88], [111, 117], []⟩ none (preC 6 D8) (fr8 vl t.length c [(5, nI i)]) (stL o0 t a b 3)
noncomputable def frDx (vl : AV) (n : Nat) (c : Cap) (i v p q fa : Nat) (ua : Bool) (fb : Nat) (ub : Bool) (w k : Nat) (z : Bool) : AFr := fr8 vl n c [(5, nI i), (10, .ptr (some (3, 0))), (11, .ptr (some (4, 0))), (12, nI v), (13, nI p), (14, nI q), (15, nI fa), (16, .bool ua), (17, nI fb), (18, .bool ub), (19, nI w), (k, .bool z)]
def kD0 : List Nat := [0, 3, 4, 5, 10, 11, 12, 13, 14, 15, 16, 17, 18, 19]
def kD (k : Nat) : List Nat := [0, 3, 4, 5, 10, 11, 12, 13, 14, 15, 16, 17, 18, 19, k]

noncomputable def tP (vl : AV) (o0 : AO) (n : Nat) : Tr (Exit × AFr × ASt) := (TM E sm [] fl0 80).ex (flH [21] [22]) none (preC 3 c8) (F8 vl) (mkSt [(0, o0)] 1)
noncomputable def tI0 (vl : AV) (o0 : AO) : Tr (Exit × AFr × ASt) := (TM E sm [] fl0 80).ex fl0 none r5 (fr8 vl 2 (.known 2) []) (stL o0 [0, 0] l1 l1 3)
noncomputable def tT (vl : AV) (o0 : AO) (t : List Nat) (a b : Ln) (c : Cap) (n i : Nat) : Tr (Exit × AFr × ASt) := (TM E sm [] fl0 80).ex (flH [30] [31]) none rT (fr8 vl t.length c [(5, nI i)]) (stL o0 t a b 3)
noncomputable def tX4 (vl : AV) (o0 : AO) (t : List Nat) (a b : Ln) (c : Cap) (i : Nat) (z : Int) : Tr (Exit × AFr × ASt) := (TM E sm [] fl0 80).ex (flH [36, 37, 44, 77] [39, 40, 73, 74]) none (preC 0 X8) (fr8 vl t.length c [(5, nI i)]) (stL o0 t a b 3)
noncomputable def tY0 (vl : AV) (o0 : AO) (t : List Nat) (a b : Ln) (c : Cap) (i v p q fa fb w : Nat) (ua ub : Bool) : Tr (Exit × AFr × ASt) := (TM E sm [] fl0 80).ex fl0 none (seqL X3) (frD vl t.length c i v p q fa ua fb ub w) (stD o0 t a b 5)
noncomputable def tY1 (vl : AV) (o0 : AO) (t : List Nat) (a b : Ln) (c : Cap) (i v p q fa fb w : Nat) (ua ub : Bool) : Tr (Exit × AFr × ASt) := (TM E sm [] fl0 80).ex fl0 none (seqL Y1) (frD vl t.length c i v p q fa ua fb ub w) (stD o0 t a b 5)
noncomputable def tY2 (vl : AV) (o0 : AO) (t : List Nat) (a b : Ln) (c : Cap) (i v p q fa fb w : Nat) (ua ub : Bool) : Tr (Exit × AFr × ASt) := (TM E sm [] fl0 80).ex fl0 none (seqL Y2) (frD vl t.length c i v p q fa ua fb ub w) (stD o0 t a b 5)
noncomputable def tY3 (vl : AV) (o0 : AO) (t : List Nat) (a b : Ln) (c : Cap) (i v p q fa fb w : Nat) (ua ub sh : Bool) : Tr (Exit × AFr × ASt) := (TM E sm [] fl0 80).ex (flH [166, 177] []) none Y3 (frD vl t.length c i v p q fa ua fb ub w) (stD o0 t a b 5)
noncomputable def tA (K : Code) (vl : AV) (o0 : AO) (t : List Nat) (a b : Ln) (c : Cap) (i v p q fa fb w : Nat) (ua ub : Bool) : Tr (Exit × AFr × ASt) := (TM E sm [] fl0 80).ex fl0 none (condT (seqR K)) (frD vl t.length c i v p q fa ua fb ub w) (stD o0 t a b 5)
noncomputable def tD3 (vl : AV) (o0 : AO) (t : List Nat) (a b : Ln) (c : Cap) (i v p q fa fb w : Nat) (ua ub : Bool) : Tr (Exit × AFr × ASt) := (TM E sm [] fl0 80).ex (flH [] [182]) none D3 (frD vl t.length c i v p q fa ua fb ub w) (stD o0 t a b 5)
noncomputable def tR7 (vl : AV) (o0 : AO) (t : List Nat) (a b : Ln) (c : Cap) (i : Nat) : Tr (Exit × AFr × ASt) := (TM E sm [] fl0 80).ex fl0 none r7 (fr8 vl t.length c [(5, nI i)]) (stL o0 t a b 3)
noncomputable def tZ (vl : AV) (o0 : AO) (t : List Nat) (a b : Ln) (c : Cap) (i : Nat) : Tr (Exit × AFr × ASt) := (TM E sm [] fl0 80).ex fl0 none rZ (fr8 vl t.length c [(5, nI i)]) (stL o0 t a b 3)
theorem vcP (vl : AV) (o0 : AO) (n : Nat) (Q : Exit × AFr × ASt → Prop) (Q2 : Exit × Option AV → Prop) :
  (aBuiltinM E .len [78] [vl] (mkSt [(0, o0)] 1) = some (nI n, mkSt [(0, o0)] 1) ∧ ifB (ltF (.ofNat 40) (.ofNat n)) (Q2 (.ret, some (.bool true))) (Q (.normal, fr8 vl 2 (.known 2) [], stL o0 [0, 0] l1 l1 3))) =
  (tP vl o0 n).allY (mixQ E Try.f8 [0, 3, 4] [0, 1, 2] Q Q2) (.v (nI n, mkSt [(0, o0)] 1) (.b .nil .nil)) := by kernel_rfl
theorem vcI0 (vl : AV) (o0 : AO) (Q : Exit × AFr × ASt → Prop) : Q (.normal, fr8 vl 2 (.known 2) [(5, nI 0)], stL o0 [0, 0] l1 l1 3) = (tI0 vl o0).allY (fun r => Q (canR [0, 3, 4, 5] [0, 1, 2] r)) .nil := by kernel_rfl
theorem vcT (vl : AV) (o0 : AO) (t : List Nat) (a b : Ln) (c : Cap) (n i : Nat) (Q : Exit × AFr × ASt → Prop) :
  (aBuiltinM E .len [78] [vl] (stL o0 t a b 3) = some (nI n, stL o0 t a b 3) ∧ ifB (ltF (.ofNat i) (.ofNat n)) (Q (.normal, fr8 vl t.length c [(5, nI i)], stL o0 t a b 3)) (Q (.exit 0, fr8 vl t.length c [(5, nI i)], stL o0 t a b 3))) =
  (tT vl o0 t a b c n i).allY (fun r => Q (canR [0, 3, 4, 5] [0, 1, 2] r)) (.v (nI n, stL o0 t a b 3) (.b .nil .nil)) := by kernel_rfl
theorem vcX4 (vl : AV) (o0 : AO) (t : List Nat) (a b : Ln) (c : Cap) (i : Nat) (z : Int) (Q : Exit × AFr × ASt → Prop) :
  (still (stL o0 t a b 3) (aIndexAddr E 78 vl (nI i)) = some (.ptr (some (0, 0 + i * 1)), stL o0 t a b 3) ∧ aLoad E 3 (.ptr (some (0, 0 + i * 1))) (stL o0 t a b 3) = some (.int .i64 z, stL o0 t a b 3) ∧
    ifB (eqF z (.ofNat 0)) False (ifB (eqF z (.ofNat 1)) False (ifB (eqF z (.ofNat 2)) False (ifB (eqF z (.ofNat 3)) False (Q (.exit 1, fr8 vl t.length c [(5, nI i)], stL o0 t a b 3)))))) =
  (tX4 vl o0 t a b c i z).allY (fun r => Q (canR [0, 3, 4, 5] [0, 1, 2] r)) (.v (.ptr (some (0, 0 + i * 1)), stL o0 t a b 3) (.v (.int .i64 z, stL o0 t a b 3) (.b .nil (.b .nil (.b .nil (.b .nil .nil)))))) := by kernel_rfl
theorem vcY0 (vl : AV) (o0 : AO) (t : List Nat) (a b : Ln) (c : Cap) (i v p q fa fb w : Nat) (ua ub : Bool) (Q : Exit × AFr × ASt → Prop) :
  Q (.normal, frDx vl t.length c i v p q fa ua fb ub w 133 (eqF (.ofNat p) (.ofNat q)), stD o0 t a b 5) = (tY0 vl o0 t a b c i v p q fa fb w ua ub).allY (fun r => Q (canR (kD 133) [0, 1, 2, 3, 4] r)) .nil := by kernel_rfl
def leI (n f : Nat) : Bool := !ltF (.ofNat n) (.ofNat f)
theorem vcY1 (vl : AV) (o0 : AO) (t : List Nat) (a b : Ln) (c : Cap) (i v p q fa fb w : Nat) (ua ub : Bool) (Q : Exit × AFr × ASt → Prop) :
  Q (.normal, frDx vl t.length c i v p q fa ua fb ub w 137 (bif ua then leI (eld b).length fa else false), stD o0 t a b (bif ua then 6 + 2 * (eld b).length else 5)) = (tY1 vl o0 t a b c i v p q fa fb w ua ub).allY (fun r => Q (canR (kD 137) [0, 1, 2, 3, 4] r)) .nil := by
  obtain ⟨bc, bb, bh⟩ := b
  cases ua <;> cases bb <;> cases bh <;> kernel_rfl
theorem vcY2 (vl : AV) (o0 : AO) (t : List Nat) (a b : Ln) (c : Cap) (i v p q fa fb w : Nat) (ua ub : Bool) (Q : Exit × AFr × ASt → Prop) :
  Q (.normal, frDx vl t.length c i v p q fa ua fb ub w 146 (bif ub then leI (eld a).length fb else false), stD o0 t a b (bif ub then 6 + 2 * (eld a).length else 5)) = (tY2 vl o0 t a b c i v p q fa fb w ua ub).allY (fun r => Q (canR (kD 146) [0, 1, 2, 3, 4] r)) .nil := by
  obtain ⟨ac, ab, ah⟩ := a
  cases ub <;> cases ab <;> cases ah <;> kernel_rfl
def wantN (ua ub sh : Bool) (v w : Nat) : Nat := bif sh then (bif ua then v else bif ub then v else 7) else w
def fuY (ua ub : Bool) : Nat := bif ua then 76 else bif ub then 76 else 78
theorem vcY3 (vl : AV) (o0 : AO) (t : List Nat) (a b : Ln) (c : Cap) (i v p q fa fb w : Nat) (ua ub sh : Bool) (Q : Exit × AFr × ASt → Prop) :
  ((M E (drawA E) sm (fuY ua ub)).call 38 [sl1 t.length c, .agg (lv a), .agg (lv b)] (stD o0 t a b 5) = some (.bool sh, stD o0 t a b 5) ∧ Q (.normal, frD vl t.length c i v p q fa ua fb ub (wantN ua ub sh v w), stD o0 t a b 5)) =
  (tY3 vl o0 t a b c i v p q fa fb w ua ub sh).allY (fun r => Q (canR kD0 [0, 1, 2, 3, 4] r)) (.v (.bool sh, stD o0 t a b 5) .nil) := by
  cases ua <;> cases ub <;> cases sh <;> kernel_rfl
theorem vcA0 (vl : AV) (o0 : AO) (t : List Nat) (a b : Ln) (c : Cap) (i v p q fa fb w : Nat) (ua ub : Bool) (Q : Exit × AFr × ASt → Prop) :
  Q (.normal, frD vl t.length c i v p q fa ua fb ub 4, stD o0 t a b 5) = (tA X3 vl o0 t a b c i v p q fa fb w ua ub).allY (fun r => Q (canR kD0 [0, 1, 2, 3, 4] r)) .nil := by kernel_rfl
theorem vcA1 (vl : AV) (o0 : AO) (t : List Nat) (a b : Ln) (c : Cap) (i v p q fa fb w : Nat) (ua ub : Bool) (Q : Exit × AFr × ASt → Prop) :
  Q (.normal, frD vl t.length c i v p q fa ua fb ub 5, stD o0 t a b 5) = (tA Y1 vl o0 t a b c i v p q fa fb w ua ub).allY (fun r => Q (canR kD0 [0, 1, 2, 3, 4] r)) .nil := by kernel_rfl
theorem vcA2 (vl : AV) (o0 : AO) (t : List Nat) (a b : Ln) (c : Cap) (i v p q fa fb w : Nat) (ua ub : Bool) (Q : Exit × AFr × ASt → Prop) :
  Q (.normal, frD vl t.length c i v p q fa ua fb ub 6, stD o0 t a b 5) = (tA Y2 vl o0 t a b c i v p q fa fb w ua ub).allY (fun r => Q (canR kD0 [0, 1, 2, 3, 4] r)) .nil := by kernel_rfl
theorem vcD3 (vl : AV) (o0 : AO) (t : List Nat) (a b : Ln) (c : Cap) (i v p q fa fb w : Nat) (ua ub : Bool) (Q : Exit × AFr × ASt → Prop) (Q2 : Exit × Option AV → Prop) :
  ifB (!eqF (.ofNat v) (.ofNat w)) (Q2 (.ret, some (.bool false))) (Q (.normal, fr8 vl t.length c [(5, nI i)], stL o0 t a b 5)) =
  (tD3 vl o0 t a b c i v p q fa fb w ua ub).allY (mixQ E Try.f8 [0, 3, 4, 5] [0, 1, 2] Q Q2) (.b .nil .nil) := by kernel_rfl
theorem vcR7 (vl : AV) (o0 : AO) (t : List Nat) (a b : Ln) (c : Cap) (i : Nat) (Q : Exit × AFr × ASt → Prop) :
  Q (.normal, fr8 vl t.length c [(5, .int .i64 (wrapF .i64 (.ofNat i + .ofNat 1)))], stL o0 t a b 3) = (tR7 vl o0 t a b c i).allY (fun r => Q (canR [0, 3, 4, 5] [0, 1, 2] r)) .nil := by kernel_rfl
theorem vcZ (vl : AV) (o0 : AO) (t : List Nat) (a b : Ln) (c : Cap) (i : Nat) (Q : Exit × Option AV → Prop) :
  Q (.ret, some (.bool true)) = (tZ vl o0 t a b c i).allY (fun r => Q (r.1, ans (leaveA E Try.f8 r.2.1 r.2.2))) .nil := by kernel_rfl
end Go.Proofs.Ytidmijpfoodkoaa.utr
end

section
open Go Go.Ax Go.Proofs.Ytidmijpfoodkoaa Go.Proofs.Ytidmijpfoodkoaa.Ut
namespace Go.Proofs.Ytidmijpfoodkoaa.utr
noncomputable def vcX0n_s0 (vl : AV) (o0 : AO) (t : List Nat) (b : Ln) (c : Cap) (i : Nat) (m : Nat) (x : Nat) (h : Hs) : ASt := mkSt [(0, o0), (1, AO.cells (trow t) true), (2, AO.cells [AV.int IntKind.u64 (Int.ofNat (m + 1)), AV.int IntKind.u64 (Int.ofNat 0), AV.int IntKind.u64 (Hs.i0 h), AV.int IntKind.u64 (Hs.i1 h), AV.int IntKind.u64 (Int.ofNat (b.c + 1)), AV.int IntKind.u64 (bI b.b), AV.int IntKind.u64 (Hs.i0 b.h), AV.int IntKind.u64 (Hs.i1 b.h)] true)] 3
noncomputable def vcX0n_s1 (vl : AV) (o0 : AO) (t : List Nat) (b : Ln) (c : Cap) (i : Nat) (m : Nat) (x : Nat) (h : Hs) : ASt := mkSt [(0, o0), (1, AO.cells (trow t) true), (2, AO.cells [AV.int IntKind.u64 (Int.ofNat (m + 1)), AV.int IntKind.u64 (Int.ofNat 0), AV.int IntKind.u64 (Hs.i0 h), AV.int IntKind.u64 (Hs.i1 h), AV.int IntKind.u64 (Int.ofNat (b.c + 1)), AV.int IntKind.u64 (bI b.b), AV.int IntKind.u64 (Hs.i0 b.h), AV.int IntKind.u64 (Hs.i1 b.h)] true), (3, AO.cells [AV.int IntKind.u64 (Int.ofNat (List.length t)), AV.int IntKind.u64 (Int.ofNat (m + 1)), AV.int IntKind.u64 (Hs.i0 h), AV.int IntKind.u64 (Hs.i1 h)] true), (4, AO.cells [AV.int IntKind.u64 (Int.ofNat (List.length t)), AV.int IntKind.u64 (Int.ofNat (m + 1)), AV.int IntKind.u64 (Hs.i0 h), AV.int IntKind.u64 (Hs.i1 h)] true), (5, AO.cells [AV.int IntKind.u64 (Int.ofNat (List.length t)), AV.int IntKind.u64 (Int.ofNat (m + 1)), AV.int IntKind.u64 (Hs.i0 h), AV.int IntKind.u64 (Hs.i1 h)] true)] 6
noncomputable def vcX0n_s2 (vl : AV) (o0 : AO) (t : List Nat) (b : Ln) (c : Cap) (i : Nat) (m : Nat) (x : Nat) (h : Hs) : ASt := mkSt [(0, o0), (1, AO.cells (trow t) true), (2, AO.cells [AV.int IntKind.u64 (Int.ofNat (m + 1)), AV.int IntKind.u64 (Int.ofNat 0), AV.int IntKind.u64 (Hs.i0 h), AV.int IntKind.u64 (Hs.i1 h), AV.int IntKind.u64 (Int.ofNat (b.c + 1)), AV.int IntKind.u64 (bI b.b), AV.int IntKind.u64 (Hs.i0 b.h), AV.int IntKind.u64 (Hs.i1 b.h)] true), (3, AO.cells [AV.int IntKind.u64 (Int.ofNat (List.length t)), AV.int IntKind.u64 (Int.ofNat (m + 1)), AV.int IntKind.u64 (Hs.i0 h), AV.int IntKind.u64 (Hs.i1 h)] true), (4, AO.cells [AV.int IntKind.u64 (Int.ofNat (List.length t)), AV.int IntKind.u64 (Int.ofNat (m + 1)), AV.int IntKind.u64 (Hs.i0 h), AV.int IntKind.u64 (Hs.i1 h)] true), (5, AO.cells [AV.int IntKind.u64 (Int.ofNat (List.length t)), AV.int IntKind.u64 (Int.ofNat (m + 1)), AV.int IntKind.u64 (Hs.i0 h), AV.int IntKind.u64 (Hs.i1 h)] true), (6, AO.cells [AV.int IntKind.i64 (Int.ofNat (m + 1))] true)] 7
noncomputable def vcX0n_s3 (vl : AV) (o0 : AO) (t : List Nat) (b : Ln) (c : Cap) (i : Nat) (m : Nat) (x : Nat) (h : Hs) : ASt := mkSt [(0, o0), (1, AO.dead), (2, AO.cells [AV.int IntKind.u64 (Int.ofNat (m + 1)), AV.int IntKind.u64 (Int.ofNat 0), AV.int IntKind.u64 (Hs.i0 h), AV.int IntKind.u64 (Hs.i1 h), AV.int IntKind.u64 (Int.ofNat (b.c + 1)), AV.int IntKind.u64 (bI b.b), AV.int IntKind.u64 (Hs.i0 b.h), AV.int IntKind.u64 (Hs.i1 b.h)] true), (3, AO.cells [AV.int IntKind.u64 (Int.ofNat (List.length t)), AV.int IntKind.u64 (Int.ofNat (m + 1)), AV.int IntKind.u64 (Hs.i0 h), AV.int IntKind.u64 (Hs.i1 h)] true), (4, AO.cells [AV.int IntKind.u64 (Int.ofNat (List.length t)), AV.int IntKind.u64 (Int.ofNat (m + 1)), AV.int IntKind.u64 (Hs.i0 h), AV.int IntKind.u64 (Hs.i1 h)] true), (5, AO.cells [AV.int IntKind.u64 (Int.ofNat (List.length t)), AV.int IntKind.u64 (Int.ofNat (m + 1)), AV.int IntKind.u64 (Hs.i0 h), AV.int IntKind.u64 (Hs.i1 h)] true), (6, AO.cells [AV.int IntKind.i64 (Int.ofNat (m + 1))] true), (7, AO.cells (trow t ++ [nI (m + 1)]) true)] 8
noncomputable def vcX0n_s4 (vl : AV) (o0 : AO) (t : List Nat) (b : Ln) (c : Cap) (i : Nat) (m : Nat) (x : Nat) (h : Hs) : ASt := mkSt [(0, o0), (1, AO.dead), (2, AO.cells [AV.int IntKind.u64 (Int.ofNat (m + 1)), AV.int IntKind.u64 (Int.ofNat 0), AV.int IntKind.u64 (Hs.i0 h), AV.int IntKind.u64 (Hs.i1 h), AV.int IntKind.u64 (Int.ofNat (b.c + 1)), AV.int IntKind.u64 (bI b.b), AV.int IntKind.u64 (Hs.i0 b.h), AV.int IntKind.u64 (Hs.i1 b.h)] true), (3, AO.cells [AV.int IntKind.u64 (Int.ofNat (List.length t)), AV.int IntKind.u64 (Int.ofNat (m + 1)), AV.int IntKind.u64 (Hs.i0 h), AV.int IntKind.u64 (Hs.i1 h)] true), (4, AO.cells [AV.int IntKind.u64 (Int.ofNat (List.length t)), AV.int IntKind.u64 (Int.ofNat (m + 1)), AV.int IntKind.u64 (Hs.i0 h), AV.int IntKind.u64 (Hs.i1 h)] true), (5, AO.cells [AV.int IntKind.u64 (Int.ofNat (List.length t)), AV.int IntKind.u64 (Int.ofNat (m + 1)), AV.int IntKind.u64 (Hs.i0 h), AV.int IntKind.u64 (Hs.i1 h)] true), (6, AO.cells [AV.int IntKind.i64 (Int.ofNat (m + 1))] true), (7, AO.cells (trow t ++ [nI (m + 1)]) true)] 15
noncomputable def vcX0n_s5 (vl : AV) (o0 : AO) (t : List Nat) (b : Ln) (c : Cap) (i : Nat) (m : Nat) (x : Nat) (h : Hs) : ASt := mkSt [(0, o0), (2, AO.cells [AV.int IntKind.u64 (Int.ofNat (List.length t)), AV.int IntKind.u64 (Int.ofNat (m + 1)), AV.int IntKind.u64 (Hs.i0 h), AV.int IntKind.u64 (Hs.i1 h), AV.int IntKind.u64 (Int.ofNat (b.c + 1)), AV.int IntKind.u64 (bI b.b), AV.int IntKind.u64 (Hs.i0 b.h), AV.int IntKind.u64 (Hs.i1 b.h)] true), (7, AO.cells (trow t ++ [nI (m + 1)]) true)] 15
theorem vcX0n (vl : AV) (o0 : AO) (t : List Nat) (b : Ln) (c : Cap) (i : Nat) (m : Nat) (x : Nat) (h : Hs) (Q : Exit × AFr × ASt → Prop) :
  (still (vcX0n_s0 vl o0 t b c i m x h) (aIndexAddr E 78 vl (AV.int IntKind.i64 (Int.ofNat i))) = some (AV.ptr (some (0, 0 + i * 1)), vcX0n_s0 vl o0 t b c i m x h) ∧ aLoad E 3 (AV.ptr (some (0, 0 + i * 1))) (vcX0n_s0 vl o0 t b c i m x h) = some (AV.int IntKind.i64 (Int.ofNat 0), vcX0n_s0 vl o0 t b c i m x h) ∧ still (vcX0n_s0 vl o0 t b c i m x h) (aIndexAddr E 78 vl (AV.int IntKind.i64 (Int.ofNat i))) = some (AV.ptr (some (0, 0 + i * 1)), vcX0n_s0 vl o0 t b c i m x h) ∧ aLoad E 3 (AV.ptr (some (0, 0 + i * 1))) (vcX0n_s0 vl o0 t b c i m x h) = some (AV.int IntKind.i64 (Int.ofNat 0), vcX0n_s0 vl o0 t b c i m x h) ∧ aConvert E 3 48 (AV.int IntKind.i64 (Int.ofNat (List.length t))) (vcX0n_s0 vl o0 t b c i m x h) = some (AV.int IntKind.u64 (Int.ofNat (List.length t)), vcX0n_s0 vl o0 t b c i m x h) ∧ still (vcX0n_s1 vl o0 t b c i m x h) (aIndexAddr E 78 vl (AV.int IntKind.i64 (Int.ofNat i))) = some (AV.ptr (some (0, 0 + i * 1)), vcX0n_s1 vl o0 t b c i m x h) ∧ aLoad E 3 (AV.ptr (some (0, 0 + i * 1))) (vcX0n_s1 vl o0 t b c i m x h) = some (AV.int IntKind.i64 (Int.ofNat 0), vcX0n_s1 vl o0 t b c i m x h) ∧ aConvert E 48 3 (AV.int IntKind.u64 (Int.ofNat (m + 1))) (vcX0n_s1 vl o0 t b c i m x h) = some (AV.int IntKind.i64 (Int.ofNat (m + 1)), vcX0n_s1 vl o0 t b c i m x h) ∧ aBuiltinM E Builtin.append [79, 79] [AV.slice (some (1, 0)) (List.length t) c, AV.slice (some (6, 0)) 1 (Cap.known 1)] (vcX0n_s2 vl o0 t b c i m x h) = some (AV.slice (some (7, 0)) (List.length t + 1) (Cap.rest 1), vcX0n_s3 vl o0 t b c i m x h) ∧ still (vcX0n_s4 vl o0 t b c i m x h) (aIndexAddr E 78 vl (AV.int IntKind.i64 (Int.ofNat i))) = some (AV.ptr (some (0, 0 + i * 1)), vcX0n_s4 vl o0 t b c i m x h) ∧ aLoad E 3 (AV.ptr (some (0, 0 + i * 1))) (vcX0n_s4 vl o0 t b c i m x h) = some (AV.int IntKind.i64 (Int.ofNat 0), vcX0n_s4 vl o0 t b c i m x h) ∧ holdsO [] ∧ Q (Exit.normal, xFr [(0, vl), (3, AV.slice (some (7, 0)) (List.length t + 1) (Cap.rest 1)), (4, AV.ptr (some (2, 0))), (5, AV.int IntKind.i64 (Int.ofNat i))] 184, vcX0n_s5 vl o0 t b c i m x h)) =
  (tX0n vl o0 t b c i m x h).allY (fun r => Q (canR [0, 3, 4, 5] [0, 2, 7] r)) (An.v (AV.ptr (some (0, 0 + i * 1)), vcX0n_s0 vl o0 t b c i m x h) (An.v (AV.int IntKind.i64 (Int.ofNat 0), vcX0n_s0 vl o0 t b c i m x h) (An.v (AV.ptr (some (0, 0 + i * 1)), vcX0n_s0 vl o0 t b c i m x h) (An.v (AV.int IntKind.i64 (Int.ofNat 0), vcX0n_s0 vl o0 t b c i m x h) (An.v (AV.int IntKind.u64 (Int.ofNat (List.length t)), vcX0n_s0 vl o0 t b c i m x h) (An.v (AV.ptr (some (0, 0 + i * 1)), vcX0n_s1 vl o0 t b c i m x h) (An.v (AV.int IntKind.i64 (Int.ofNat 0), vcX0n_s1 vl o0 t b c i m x h) (An.v (AV.int IntKind.i64 (Int.ofNat (m + 1)), vcX0n_s1 vl o0 t b c i m x h) (An.v (AV.slice (some (7, 0)) (List.length t + 1) (Cap.rest 1), vcX0n_s3 vl o0 t b c i m x h) (An.v (AV.ptr (some (0, 0 + i * 1)), vcX0n_s4 vl o0 t b c i m x h) (An.v (AV.int IntKind.i64 (Int.ofNat 0), vcX0n_s4 vl o0 t b c i m x h) An.nil))))))))))) := by kernel_rfl
noncomputable def vcX0s_s0 (vl : AV) (o0 : AO) (t : List Nat) (b : Ln) (c : Cap) (i : Nat) (m : Nat) (x : Nat) (h : Hs) : ASt := mkSt [(0, o0), (1, AO.cells (trow t) true), (2, AO.cells [AV.int IntKind.u64 (Int.ofNat (m + 1)), AV.int IntKind.u64 (bI (some x)), AV.int IntKind.u64 (Hs.i0 h), AV.int IntKind.u64 (Hs.i1 h), AV.int IntKind.u64 (Int.ofNat (b.c + 1)), AV.int IntKind.u64 (bI b.b), AV.int IntKind.u64 (Hs.i0 b.h), AV.int IntKind.u64 (Hs.i1 b.h)] true)] 3
noncomputable def vcX0s_s1 (vl : AV) (o0 : AO) (t : List Nat) (b : Ln) (c : Cap) (i : Nat) (m : Nat) (x : Nat) (h : Hs) : ASt := mkSt [(0, o0), (1, AO.cells (trow t) true), (2, AO.cells [AV.int IntKind.u64 (Int.ofNat (m + 1)), AV.int IntKind.u64 (bI (some x)), AV.int IntKind.u64 (Hs.i0 h), AV.int IntKind.u64 (Hs.i1 h), AV.int IntKind.u64 (Int.ofNat (b.c + 1)), AV.int IntKind.u64 (bI b.b), AV.int IntKind.u64 (Hs.i0 b.h), AV.int IntKind.u64 (Hs.i1 b.h)] true), (3, AO.cells [AV.int IntKind.u64 (Int.ofNat (m + 1)), AV.int IntKind.u64 (bI (some x)), AV.int IntKind.u64 (Hs.i0 h), AV.int IntKind.u64 (Hs.i1 h)] true), (4, AO.cells [AV.int IntKind.u64 (Int.ofNat (m + 1)), AV.int IntKind.u64 (bI (some x)), AV.int IntKind.u64 (Hs.i0 h), AV.int IntKind.u64 (Hs.i1 h)] true), (5, AO.cells [AV.int IntKind.u64 (Int.ofNat (m + 1)), AV.int IntKind.u64 (bI (some x)), AV.int IntKind.u64 (Hs.i0 h), AV.int IntKind.u64 (Hs.i1 h)] true)] 13
noncomputable def vcX0s_s2 (vl : AV) (o0 : AO) (t : List Nat) (b : Ln) (c : Cap) (i : Nat) (m : Nat) (x : Nat) (h : Hs) : ASt := mkSt [(0, o0), (1, AO.cells (trow t) true), (2, AO.cells [AV.int IntKind.u64 (Int.ofNat (m + 1)), AV.int IntKind.u64 (bI (some x)), AV.int IntKind.u64 (Hs.i0 h), AV.int IntKind.u64 (Hs.i1 h), AV.int IntKind.u64 (Int.ofNat (b.c + 1)), AV.int IntKind.u64 (bI b.b), AV.int IntKind.u64 (Hs.i0 b.h), AV.int IntKind.u64 (Hs.i1 b.h)] true)] 13
theorem vcX0s (vl : AV) (o0 : AO) (t : List Nat) (b : Ln) (c : Cap) (i : Nat) (m : Nat) (x : Nat) (h : Hs) (Q : Exit × AFr × ASt → Prop) :
  (still (vcX0s_s0 vl o0 t b c i m x h) (aIndexAddr E 78 vl (AV.int IntKind.i64 (Int.ofNat i))) = some (AV.ptr (some (0, 0 + i * 1)), vcX0s_s0 vl o0 t b c i m x h) ∧ aLoad E 3 (AV.ptr (some (0, 0 + i * 1))) (vcX0s_s0 vl o0 t b c i m x h) = some (AV.int IntKind.i64 (Int.ofNat 0), vcX0s_s0 vl o0 t b c i m x h) ∧ still (vcX0s_s0 vl o0 t b c i m x h) (aIndexAddr E 78 vl (AV.int IntKind.i64 (Int.ofNat i))) = some (AV.ptr (some (0, 0 + i * 1)), vcX0s_s0 vl o0 t b c i m x h) ∧ aLoad E 3 (AV.ptr (some (0, 0 + i * 1))) (vcX0s_s0 vl o0 t b c i m x h) = some (AV.int IntKind.i64 (Int.ofNat 0), vcX0s_s0 vl o0 t b c i m x h) ∧ aConvert E 3 48 (AV.int IntKind.i64 (Int.ofNat (List.length t))) (vcX0s_s0 vl o0 t b c i m x h) = some (AV.int IntKind.u64 (Int.ofNat (List.length t)), vcX0s_s0 vl o0 t b c i m x h) ∧ still (vcX0s_s1 vl o0 t b c i m x h) (aIndexAddr E 78 vl (AV.int IntKind.i64 (Int.ofNat i))) = some (AV.ptr (some (0, 0 + i * 1)), vcX0s_s1 vl o0 t b c i m x h) ∧ aLoad E 3 (AV.ptr (some (0, 0 + i * 1))) (vcX0s_s1 vl o0 t b c i m x h) = some (AV.int IntKind.i64 (Int.ofNat 0), vcX0s_s1 vl o0 t b c i m x h) ∧ holdsO [] ∧ Q (Exit.normal, xFr [(0, vl), (3, AV.slice (some (1, 0)) (List.length t) c), (4, AV.ptr (some (2, 0))), (5, AV.int IntKind.i64 (Int.ofNat i))] 184, vcX0s_s2 vl o0 t b c i m x h)) =
  (tX0s vl o0 t b c i m x h).allY (fun r => Q (canR [0, 3, 4, 5] [0, 1, 2] r)) (An.v (AV.ptr (some (0, 0 + i * 1)), vcX0s_s0 vl o0 t b c i m x h) (An.v (AV.int IntKind.i64 (Int.ofNat 0), vcX0s_s0 vl o0 t b c i m x h) (An.v (AV.ptr (some (0, 0 + i * 1)), vcX0s_s0 vl o0 t b c i m x h) (An.v (AV.int IntKind.i64 (Int.ofNat 0), vcX0s_s0 vl o0 t b c i m x h) (An.v (AV.int IntKind.u64 (Int.ofNat (List.length t)), vcX0s_s0 vl o0 t b c i m x h) (An.v (AV.ptr (some (0, 0 + i * 1)), vcX0s_s1 vl o0 t b c i m x h) (An.v (AV.int IntKind.i64 (Int.ofNat 0), vcX0s_s1 vl o0 t b c i m x h) An.nil))))))) := by kernel_rfl
noncomputable def vcX1n_s0 (vl : AV) (o0 : AO) (t : List Nat) (b : Ln) (c : Cap) (i : Nat) (m : Nat) (x : Nat) (h : Hs) : ASt := mkSt [(0, o0), (1, AO.cells (trow t) true), (2, AO.cells [AV.int IntKind.u64 (Int.ofNat (b.c + 1)), AV.int IntKind.u64 (bI b.b), AV.int IntKind.u64 (Hs.i0 b.h), AV.int IntKind.u64 (Hs.i1 b.h), AV.int IntKind.u64 (Int.ofNat (m + 1)), AV.int IntKind.u64 (Int.ofNat 0), AV.int IntKind.u64 (Hs.i0 h), AV.int IntKind.u64 (Hs.i1 h)] true)] 3
noncomputable def vcX1n_s1 (vl : AV) (o0 : AO) (t : List Nat) (b : Ln) (c : Cap) (i : Nat) (m : Nat) (x : Nat) (h : Hs) : ASt := mkSt [(0, o0), (1, AO.cells (trow t) true), (2, AO.cells [AV.int IntKind.u64 (Int.ofNat (b.c + 1)), AV.int IntKind.u64 (bI b.b), AV.int IntKind.u64 (Hs.i0 b.h), AV.int IntKind.u64 (Hs.i1 b.h), AV.int IntKind.u64 (Int.ofNat (m + 1)), AV.int IntKind.u64 (Int.ofNat 0), AV.int IntKind.u64 (Hs.i0 h), AV.int IntKind.u64 (Hs.i1 h)] true), (3, AO.cells [AV.int IntKind.u64 (Int.ofNat (List.length t)), AV.int IntKind.u64 (Int.ofNat (m + 1)), AV.int IntKind.u64 (Hs.i0 h), AV.int IntKind.u64 (Hs.i1 h)] true), (4, AO.cells [AV.int IntKind.u64 (Int.ofNat (List.length t)), AV.int IntKind.u64 (Int.ofNat (m + 1)), AV.int IntKind.u64 (Hs.i0 h), AV.int IntKind.u64 (Hs.i1 h)] true), (5, AO.cells [AV.int IntKind.u64 (Int.ofNat (List.length t)), AV.int IntKind.u64 (Int.ofNat (m + 1)), AV.int IntKind.u64 (Hs.i0 h), AV.int IntKind.u64 (Hs.i1 h)] true)] 6
noncomputable def vcX1n_s2 (vl : AV) (o0 : AO) (t : List Nat) (b : Ln) (c : Cap) (i : Nat) (m : Nat) (x : Nat) (h : Hs) : ASt := mkSt [(0, o0), (1, AO.cells (trow t) true), (2, AO.cells [AV.int IntKind.u64 (Int.ofNat (b.c + 1)), AV.int IntKind.u64 (bI b.b), AV.int IntKind.u64 (Hs.i0 b.h), AV.int IntKind.u64 (Hs.i1 b.h), AV.int IntKind.u64 (Int.ofNat (m + 1)), AV.int IntKind.u64 (Int.ofNat 0), AV.int IntKind.u64 (Hs.i0 h), AV.int IntKind.u64 (Hs.i1 h)] true), (3, AO.cells [AV.int IntKind.u64 (Int.ofNat (List.length t)), AV.int IntKind.u64 (Int.ofNat (m + 1)), AV.int IntKind.u64 (Hs.i0 h), AV.int IntKind.u64 (Hs.i1 h)] true), (4, AO.cells [AV.int IntKind.u64 (Int.ofNat (List.length t)), AV.int IntKind.u64 (Int.ofNat (m + 1)), AV.int IntKind.u64 (Hs.i0 h), AV.int IntKind.u64 (Hs.i1 h)] true), (5, AO.cells [AV.int IntKind.u64 (Int.ofNat (List.length t)), AV.int IntKind.u64 (Int.ofNat (m + 1)), AV.int IntKind.u64 (Hs.i0 h), AV.int IntKind.u64 (Hs.i1 h)] true), (6, AO.cells [AV.int IntKind.i64 (Int.ofNat (m + 1))] true)] 7
noncomputable def vcX1n_s3 (vl : AV) (o0 : AO) (t : List Nat) (b : Ln) (c : Cap) (i : Nat) (m : Nat) (x : Nat) (h : Hs) : ASt := mkSt [(0, o0), (1, AO.dead), (2, AO.cells [AV.int IntKind.u64 (Int.ofNat (b.c + 1)), AV.int IntKind.u64 (bI b.b), AV.int IntKind.u64 (Hs.i0 b.h), AV.int IntKind.u64 (Hs.i1 b.h), AV.int IntKind.u64 (Int.ofNat (m + 1)), AV.int IntKind.u64 (Int.ofNat 0), AV.int IntKind.u64 (Hs.i0 h), AV.int IntKind.u64 (Hs.i1 h)] true), (3, AO.cells [AV.int IntKind.u64 (Int.ofNat (List.length t)), AV.int IntKind.u64 (Int.ofNat (m + 1)), AV.int IntKind.u64 (Hs.i0 h), AV.int IntKind.u64 (Hs.i1 h)] true), (4, AO.cells [AV.int IntKind.u64 (Int.ofNat (List.length t)), AV.int IntKind.u64 (Int.ofNat (m + 1)), AV.int IntKind.u64 (Hs.i0 h), AV.int IntKind.u64 (Hs.i1 h)] true), (5, AO.cells [AV.int IntKind.u64 (Int.ofNat (List.length t)), AV.int IntKind.u64 (Int.ofNat (m + 1)), AV.int IntKind.u64 (Hs.i0 h), AV.int IntKind.u64 (Hs.i1 h)] true), (6, AO.cells [AV.int IntKind.i64 (Int.ofNat (m + 1))] true), (7, AO.cells (trow t ++ [nI (m + 1)]) true)] 8
noncomputable def vcX1n_s4 (vl : AV) (o0 : AO) (t : List Nat) (b : Ln) (c : Cap) (i : Nat) (m : Nat) (x : Nat) (h : Hs) : ASt := mkSt [(0, o0), (1, AO.dead), (2, AO.cells [AV.int IntKind.u64 (Int.ofNat (b.c + 1)), AV.int IntKind.u64 (bI b.b), AV.int IntKind.u64 (Hs.i0 b.h), AV.int IntKind.u64 (Hs.i1 b.h), AV.int IntKind.u64 (Int.ofNat (m + 1)), AV.int IntKind.u64 (Int.ofNat 0), AV.int IntKind.u64 (Hs.i0 h), AV.int IntKind.u64 (Hs.i1 h)] true), (3, AO.cells [AV.int IntKind.u64 (Int.ofNat (List.length t)), AV.int IntKind.u64 (Int.ofNat (m + 1)), AV.int IntKind.u64 (Hs.i0 h), AV.int IntKind.u64 (Hs.i1 h)] true), (4, AO.cells [AV.int IntKind.u64 (Int.ofNat (List.length t)), AV.int IntKind.u64 (Int.ofNat (m + 1)), AV.int IntKind.u64 (Hs.i0 h), AV.int IntKind.u64 (Hs.i1 h)] true), (5, AO.cells [AV.int IntKind.u64 (Int.ofNat (List.length t)), AV.int IntKind.u64 (Int.ofNat (m + 1)), AV.int IntKind.u64 (Hs.i0 h), AV.int IntKind.u64 (Hs.i1 h)] true), (6, AO.cells [AV.int IntKind.i64 (Int.ofNat (m + 1))] true), (7, AO.cells (trow t ++ [nI (m + 1)]) true)] 15
noncomputable def vcX1n_s5 (vl : AV) (o0 : AO) (t : List Nat) (b : Ln) (c : Cap) (i : Nat) (m : Nat) (x : Nat) (h : Hs) : ASt := mkSt [(0, o0), (2, AO.cells [AV.int IntKind.u64 (Int.ofNat (b.c + 1)), AV.int IntKind.u64 (bI b.b), AV.int IntKind.u64 (Hs.i0 b.h), AV.int IntKind.u64 (Hs.i1 b.h), AV.int IntKind.u64 (Int.ofNat (List.length t)), AV.int IntKind.u64 (Int.ofNat (m + 1)), AV.int IntKind.u64 (Hs.i0 h), AV.int IntKind.u64 (Hs.i1 h)] true), (7, AO.cells (trow t ++ [nI (m + 1)]) true)] 15
theorem vcX1n (vl : AV) (o0 : AO) (t : List Nat) (b : Ln) (c : Cap) (i : Nat) (m : Nat) (x : Nat) (h : Hs) (Q : Exit × AFr × ASt → Prop) :
  (still (vcX1n_s0 vl o0 t b c i m x h) (aIndexAddr E 78 vl (AV.int IntKind.i64 (Int.ofNat i))) = some (AV.ptr (some (0, 0 + i * 1)), vcX1n_s0 vl o0 t b c i m x h) ∧ aLoad E 3 (AV.ptr (some (0, 0 + i * 1))) (vcX1n_s0 vl o0 t b c i m x h) = some (AV.int IntKind.i64 (Int.ofNat 1), vcX1n_s0 vl o0 t b c i m x h) ∧ still (vcX1n_s0 vl o0 t b c i m x h) (aIndexAddr E 78 vl (AV.int IntKind.i64 (Int.ofNat i))) = some (AV.ptr (some (0, 0 + i * 1)), vcX1n_s0 vl o0 t b c i m x h) ∧ aLoad E 3 (AV.ptr (some (0, 0 + i * 1))) (vcX1n_s0 vl o0 t b c i m x h) = some (AV.int IntKind.i64 (Int.ofNat 1), vcX1n_s0 vl o0 t b c i m x h) ∧ aConvert E 3 48 (AV.int IntKind.i64 (Int.ofNat (List.length t))) (vcX1n_s0 vl o0 t b c i m x h) = some (AV.int IntKind.u64 (Int.ofNat (List.length t)), vcX1n_s0 vl o0 t b c i m x h) ∧ still (vcX1n_s1 vl o0 t b c i m x h) (aIndexAddr E 78 vl (AV.int IntKind.i64 (Int.ofNat i))) = some (AV.ptr (some (0, 0 + i * 1)), vcX1n_s1 vl o0 t b c i m x h) ∧ aLoad E 3 (AV.ptr (some (0, 0 + i * 1))) (vcX1n_s1 vl o0 t b c i m x h) = some (AV.int IntKind.i64 (Int.ofNat 1), vcX1n_s1 vl o0 t b c i m x h) ∧ aConvert E 48 3 (AV.int IntKind.u64 (Int.ofNat (m + 1))) (vcX1n_s1 vl o0 t b c i m x h) = some (AV.int IntKind.i64 (Int.ofNat (m + 1)), vcX1n_s1 vl o0 t b c i m x h) ∧ aBuiltinM E Builtin.append [79, 79] [AV.slice (some (1, 0)) (List.length t) c, AV.slice (some (6, 0)) 1 (Cap.known 1)] (vcX1n_s2 vl o0 t b c i m x h) = some (AV.slice (some (7, 0)) (List.length t + 1) (Cap.rest 1), vcX1n_s3 vl o0 t b c i m x h) ∧ still (vcX1n_s4 vl o0 t b c i m x h) (aIndexAddr E 78 vl (AV.int IntKind.i64 (Int.ofNat i))) = some (AV.ptr (some (0, 0 + i * 1)), vcX1n_s4 vl o0 t b c i m x h) ∧ aLoad E 3 (AV.ptr (some (0, 0 + i * 1))) (vcX1n_s4 vl o0 t b c i m x h) = some (AV.int IntKind.i64 (Int.ofNat 1), vcX1n_s4 vl o0 t b c i m x h) ∧ holdsO [] ∧ Q (Exit.normal, xFr [(0, vl), (3, AV.slice (some (7, 0)) (List.length t + 1) (Cap.rest 1)), (4, AV.ptr (some (2, 0))), (5, AV.int IntKind.i64 (Int.ofNat i))] 184, vcX1n_s5 vl o0 t b c i m x h)) =
  (tX1n vl o0 t b c i m x h).allY (fun r => Q (canR [0, 3, 4, 5] [0, 2, 7] r)) (An.v (AV.ptr (some (0, 0 + i * 1)), vcX1n_s0 vl o0 t b c i m x h) (An.v (AV.int IntKind.i64 (Int.ofNat 1), vcX1n_s0 vl o0 t b c i m x h) (An.v (AV.ptr (some (0, 0 + i * 1)), vcX1n_s0 vl o0 t b c i m x h) (An.v (AV.int IntKind.i64 (Int.ofNat 1), vcX1n_s0 vl o0 t b c i m x h) (An.v (AV.int IntKind.u64 (Int.ofNat (List.length t)), vcX1n_s0 vl o0 t b c i m x h) (An.v (AV.ptr (some (0, 0 + i * 1)), vcX1n_s1 vl o0 t b c i m x h) (An.v (AV.int IntKind.i64 (Int.ofNat 1), vcX1n_s1 vl o0 t b c i m x h) (An.v (AV.int IntKind.i64 (Int.ofNat (m + 1)), vcX1n_s1 vl o0 t b c i m x h) (An.v (AV.slice (some (7, 0)) (List.length t + 1) (Cap.rest 1), vcX1n_s3 vl o0 t b c i m x h) (An.v (AV.ptr (some (0, 0 + i * 1)), vcX1n_s4 vl o0 t b c i m x h) (An.v (AV.int IntKind.i64 (Int.ofNat 1), vcX1n_s4 vl o0 t b c i m x h) An.nil))))))))))) := by kernel_rfl
noncomputable def vcX1s_s0 (vl : AV) (o0 : AO) (t : List Nat) (b : Ln) (c : Cap) (i : Nat) (m : Nat) (x : Nat) (h : Hs) : ASt := mkSt [(0, o0), (1, AO.cells (trow t) true), (2, AO.cells [AV.int IntKind.u64 (Int.ofNat (b.c + 1)), AV.int IntKind.u64 (bI b.b), AV.int IntKind.u64 (Hs.i0 b.h), AV.int IntKind.u64 (Hs.i1 b.h), AV.int IntKind.u64 (Int.ofNat (m + 1)), AV.int IntKind.u64 (bI (some x)), AV.int IntKind.u64 (Hs.i0 h), AV.int IntKind.u64 (Hs.i1 h)] true)] 3
noncomputable def vcX1s_s1 (vl : AV) (o0 : AO) (t : List Nat) (b : Ln) (c : Cap) (i : Nat) (m : Nat) (x : Nat) (h : Hs) : ASt := mkSt [(0, o0), (1, AO.cells (trow t) true), (2, AO.cells [AV.int IntKind.u64 (Int.ofNat (b.c + 1)), AV.int IntKind.u64 (bI b.b), AV.int IntKind.u64 (Hs.i0 b.h), AV.int IntKind.u64 (Hs.i1 b.h), AV.int IntKind.u64 (Int.ofNat (m + 1)), AV.int IntKind.u64 (bI (some x)), AV.int IntKind.u64 (Hs.i0 h), AV.int IntKind.u64 (Hs.i1 h)] true), (3, AO.cells [AV.int IntKind.u64 (Int.ofNat (m + 1)), AV.int IntKind.u64 (bI (some x)), AV.int IntKind.u64 (Hs.i0 h), AV.int IntKind.u64 (Hs.i1 h)] true), (4, AO.cells [AV.int IntKind.u64 (Int.ofNat (m + 1)), AV.int IntKind.u64 (bI (some x)), AV.int IntKind.u64 (Hs.i0 h), AV.int IntKind.u64 (Hs.i1 h)] true), (5, AO.cells [AV.int IntKind.u64 (Int.ofNat (m + 1)), AV.int IntKind.u64 (bI (some x)), AV.int IntKind.u64 (Hs.i0 h), AV.int IntKind.u64 (Hs.i1 h)] true)] 13
noncomputable def vcX1s_s2 (vl : AV) (o0 : AO) (t : List Nat) (b : Ln) (c : Cap) (i : Nat) (m : Nat) (x : Nat) (h : Hs) : ASt := mkSt [(0, o0), (1, AO.cells (trow t) true), (2, AO.cells [AV.int IntKind.u64 (Int.ofNat (b.c + 1)), AV.int IntKind.u64 (bI b.b), AV.int IntKind.u64 (Hs.i0 b.h), AV.int IntKind.u64 (Hs.i1 b.h), AV.int IntKind.u64 (Int.ofNat (m + 1)), AV.int IntKind.u64 (bI (some x)), AV.int IntKind.u64 (Hs.i0 h), AV.int IntKind.u64 (Hs.i1 h)] true)] 13
theorem vcX1s (vl : AV) (o0 : AO) (t : List Nat) (b : Ln) (c : Cap) (i : Nat) (m : Nat) (x : Nat) (h : Hs) (Q : Exit × AFr × ASt → Prop) :
  (still (vcX1s_s0 vl o0 t b c i m x h) (aIndexAddr E 78 vl (AV.int IntKind.i64 (Int.ofNat i))) = some (AV.ptr (some (0, 0 + i * 1)), vcX1s_s0 vl o0 t b c i m x h) ∧ aLoad E 3 (AV.ptr (some (0, 0 + i * 1))) (vcX1s_s0 vl o0 t b c i m x h) = some (AV.int IntKind.i64 (Int.ofNat 1), vcX1s_s0 vl o0 t b c i m x h) ∧ still (vcX1s_s0 vl o0 t b c i m x h) (aIndexAddr E 78 vl (AV.int IntKind.i64 (Int.ofNat i))) = some (AV.ptr (some (0, 0 + i * 1)), vcX1s_s0 vl o0 t b c i m x h) ∧ aLoad E 3 (AV.ptr (some (0, 0 + i * 1))) (vcX1s_s0 vl o0 t b c i m x h) = some (AV.int IntKind.i64 (Int.ofNat 1), vcX1s_s0 vl o0 t b c i m x h) ∧ aConvert E 3 48 (AV.int IntKind.i64 (Int.ofNat (List.length t))) (vcX1s_s0 vl o0 t b c i m x h) = some (AV.int IntKind.u64 (Int.ofNat (List.length t)), vcX1s_s0 vl o0 t b c i m x h) ∧ still (vcX1s_s1 vl o0 t b c i m x h) (aIndexAddr E 78 vl (AV.int IntKind.i64 (Int.ofNat i))) = some (AV.ptr (some (0, 0 + i * 1)), vcX1s_s1 vl o0 t b c i m x h) ∧ aLoad E 3 (AV.ptr (some (0, 0 + i * 1))) (vcX1s_s1 vl o0 t b c i m x h) = some (AV.int IntKind.i64 (Int.ofNat 1), vcX1s_s1 vl o0 t b c i m x h) ∧ holdsO [] ∧ Q (Exit.normal, xFr [(0, vl), (3, AV.slice (some (1, 0)) (List.length t) c), (4, AV.ptr (some (2, 0))), (5, AV.int IntKind.i64 (Int.ofNat i))] 184, vcX1s_s2 vl o0 t b c i m x h)) =
  (tX1s vl o0 t b c i m x h).allY (fun r => Q (canR [0, 3, 4, 5] [0, 1, 2] r)) (An.v (AV.ptr (some (0, 0 + i * 1)), vcX1s_s0 vl o0 t b c i m x h) (An.v (AV.int IntKind.i64 (Int.ofNat 1), vcX1s_s0 vl o0 t b c i m x h) (An.v (AV.ptr (some (0, 0 + i * 1)), vcX1s_s0 vl o0 t b c i m x h) (An.v (AV.int IntKind.i64 (Int.ofNat 1), vcX1s_s0 vl o0 t b c i m x h) (An.v (AV.int IntKind.u64 (Int.ofNat (List.length t)), vcX1s_s0 vl o0 t b c i m x h) (An.v (AV.ptr (some (0, 0 + i * 1)), vcX1s_s1 vl o0 t b c i m x h) (An.v (AV.int IntKind.i64 (Int.ofNat 1), vcX1s_s1 vl o0 t b c i m x h) An.nil))))))) := by kernel_rfl
noncomputable def vcX2n_s0 (vl : AV) (o0 : AO) (t : List Nat) (b : Ln) (c : Cap) (i : Nat) (m : Nat) (x : Nat) (h : Hs) : ASt := mkSt [(0, o0), (1, AO.cells (trow t) true), (2, AO.cells [AV.int IntKind.u64 (Int.ofNat (m + 1)), AV.int IntKind.u64 (Int.ofNat 0), AV.int IntKind.u64 (Hs.i0 h), AV.int IntKind.u64 (Hs.i1 h), AV.int IntKind.u64 (Int.ofNat (b.c + 1)), AV.int IntKind.u64 (bI b.b), AV.int IntKind.u64 (Hs.i0 b.h), AV.int IntKind.u64 (Hs.i1 b.h)] true)] 3
noncomputable def vcX2n_s1 (vl : AV) (o0 : AO) (t : List Nat) (b : Ln) (c : Cap) (i : Nat) (m : Nat) (x : Nat) (h : Hs) : ASt := mkSt [(0, o0), (1, AO.cells (trow t) true), (2, AO.cells [AV.int IntKind.u64 (Int.ofNat (m + 1)), AV.int IntKind.u64 (Int.ofNat 0), AV.int IntKind.u64 (Hs.i0 h), AV.int IntKind.u64 (Hs.i1 h), AV.int IntKind.u64 (Int.ofNat (m + 1)), AV.int IntKind.u64 (Int.ofNat 0), AV.int IntKind.u64 (Hs.i0 h), AV.int IntKind.u64 (Hs.i1 h)] true)] 12
theorem vcX2n (vl : AV) (o0 : AO) (t : List Nat) (b : Ln) (c : Cap) (i : Nat) (m : Nat) (x : Nat) (h : Hs) (Q : Exit × AFr × ASt → Prop) :
  (still (vcX2n_s0 vl o0 t b c i m x h) (aIndexAddr E 78 vl (AV.int IntKind.i64 (Int.ofNat i))) = some (AV.ptr (some (0, 0 + i * 1)), vcX2n_s0 vl o0 t b c i m x h) ∧ aLoad E 3 (AV.ptr (some (0, 0 + i * 1))) (vcX2n_s0 vl o0 t b c i m x h) = some (AV.int IntKind.i64 (Int.ofNat 2), vcX2n_s0 vl o0 t b c i m x h) ∧ still (vcX2n_s0 vl o0 t b c i m x h) (aIndexAddr E 78 vl (AV.int IntKind.i64 (Int.ofNat i))) = some (AV.ptr (some (0, 0 + i * 1)), vcX2n_s0 vl o0 t b c i m x h) ∧ aLoad E 3 (AV.ptr (some (0, 0 + i * 1))) (vcX2n_s0 vl o0 t b c i m x h) = some (AV.int IntKind.i64 (Int.ofNat 2), vcX2n_s0 vl o0 t b c i m x h) ∧ holdsO [(some (AV.agg [AV.int IntKind.u64 (Int.ofNat (m + 1)), AV.int IntKind.u64 (Int.ofNat 0), AV.int IntKind.u64 (Hs.i0 h), AV.int IntKind.u64 (Hs.i1 h)]), AV.agg [AV.int IntKind.u64 (Int.ofNat (m + 1)), AV.int IntKind.u64 (Int.ofNat 0), AV.int IntKind.u64 (Hs.i0 h), AV.int IntKind.u64 (Hs.i1 h)])] ∧ Q (Exit.normal, xFr [(0, vl), (3, AV.slice (some (1, 0)) (List.length t) c), (4, AV.ptr (some (2, 0))), (5, AV.int IntKind.i64 (Int.ofNat i))] 184, vcX2n_s1 vl o0 t b c i m x h)) =
  (tX2n vl o0 t b c i m x h).allY (fun r => Q (canR [0, 3, 4, 5] [0, 1, 2] r)) (An.v (AV.ptr (some (0, 0 + i * 1)), vcX2n_s0 vl o0 t b c i m x h) (An.v (AV.int IntKind.i64 (Int.ofNat 2), vcX2n_s0 vl o0 t b c i m x h) (An.v (AV.ptr (some (0, 0 + i * 1)), vcX2n_s0 vl o0 t b c i m x h) (An.v (AV.int IntKind.i64 (Int.ofNat 2), vcX2n_s0 vl o0 t b c i m x h) An.nil)))) := by kernel_rfl
noncomputable def vcX2s_s0 (vl : AV) (o0 : AO) (t : List Nat) (b : Ln) (c : Cap) (i : Nat) (m : Nat) (x : Nat) (h : Hs) : ASt := mkSt [(0, o0), (1, AO.cells (trow t) true), (2, AO.cells [AV.int IntKind.u64 (Int.ofNat (m + 1)), AV.int IntKind.u64 (bI (some x)), AV.int IntKind.u64 (Hs.i0 h), AV.int IntKind.u64 (Hs.i1 h), AV.int IntKind.u64 (Int.ofNat (b.c + 1)), AV.int IntKind.u64 (bI b.b), AV.int IntKind.u64 (Hs.i0 b.h), AV.int IntKind.u64 (Hs.i1 b.h)] true)] 3
noncomputable def vcX2s_s1 (vl : AV) (o0 : AO) (t : List Nat) (b : Ln) (c : Cap) (i : Nat) (m : Nat) (x : Nat) (h : Hs) : ASt := mkSt [(0, o0), (1, AO.cells (trow t) true), (2, AO.cells [AV.int IntKind.u64 (Int.ofNat (m + 1)), AV.int IntKind.u64 (Int.ofNat 0), AV.int IntKind.u64 (bI (some x)), AV.int IntKind.u64 (Hs.i0 h), AV.int IntKind.u64 (Int.ofNat (m + 1)), AV.int IntKind.u64 (Int.ofNat 0), AV.int IntKind.u64 (bI (some x)), AV.int IntKind.u64 (Hs.i0 h)] true)] 12
theorem vcX2s (vl : AV) (o0 : AO) (t : List Nat) (b : Ln) (c : Cap) (i : Nat) (m : Nat) (x : Nat) (h : Hs) (Q : Exit × AFr × ASt → Prop) :
  (still (vcX2s_s0 vl o0 t b c i m x h) (aIndexAddr E 78 vl (AV.int IntKind.i64 (Int.ofNat i))) = some (AV.ptr (some (0, 0 + i * 1)), vcX2s_s0 vl o0 t b c i m x h) ∧ aLoad E 3 (AV.ptr (some (0, 0 + i * 1))) (vcX2s_s0 vl o0 t b c i m x h) = some (AV.int IntKind.i64 (Int.ofNat 2), vcX2s_s0 vl o0 t b c i m x h) ∧ still (vcX2s_s0 vl o0 t b c i m x h) (aIndexAddr E 78 vl (AV.int IntKind.i64 (Int.ofNat i))) = some (AV.ptr (some (0, 0 + i * 1)), vcX2s_s0 vl o0 t b c i m x h) ∧ aLoad E 3 (AV.ptr (some (0, 0 + i * 1))) (vcX2s_s0 vl o0 t b c i m x h) = some (AV.int IntKind.i64 (Int.ofNat 2), vcX2s_s0 vl o0 t b c i m x h) ∧ holdsO [(some (AV.agg [AV.int IntKind.u64 (Int.ofNat (m + 1)), AV.int IntKind.u64 (Int.ofNat 0), AV.int IntKind.u64 (bI (some x)), AV.int IntKind.u64 (Hs.i0 h)]), AV.agg [AV.int IntKind.u64 (Int.ofNat (m + 1)), AV.int IntKind.u64 (Int.ofNat 0), AV.int IntKind.u64 (bI (some x)), AV.int IntKind.u64 (Hs.i0 h)])] ∧ Q (Exit.normal, xFr [(0, vl), (3, AV.slice (some (1, 0)) (List.length t) c), (4, AV.ptr (some (2, 0))), (5, AV.int IntKind.i64 (Int.ofNat i))] 184, vcX2s_s1 vl o0 t b c i m x h)) =
  (tX2s vl o0 t b c i m x h).allY (fun r => Q (canR [0, 3, 4, 5] [0, 1, 2] r)) (An.v (AV.ptr (some (0, 0 + i * 1)), vcX2s_s0 vl o0 t b c i m x h) (An.v (AV.int IntKind.i64 (Int.ofNat 2), vcX2s_s0 vl o0 t b c i m x h) (An.v (AV.ptr (some (0, 0 + i * 1)), vcX2s_s0 vl o0 t b c i m x h) (An.v (AV.int IntKind.i64 (Int.ofNat 2), vcX2s_s0 vl o0 t b c i m x h) An.nil)))) := by kernel_rfl
noncomputable def vcX3n_s0 (vl : AV) (o0 : AO) (t : List Nat) (b : Ln) (c : Cap) (i : Nat) (m : Nat) (x : Nat) (h : Hs) : ASt := mkSt [(0, o0), (1, AO.cells (trow t) true), (2, AO.cells [AV.int IntKind.u64 (Int.ofNat (b.c + 1)), AV.int IntKind.u64 (bI b.b), AV.int IntKind.u64 (Hs.i0 b.h), AV.int IntKind.u64 (Hs.i1 b.h), AV.int IntKind.u64 (Int.ofNat (m + 1)), AV.int IntKind.u64 (Int.ofNat 0), AV.int IntKind.u64 (Hs.i0 h), AV.int IntKind.u64 (Hs.i1 h)] true)] 3
noncomputable def vcX3n_s1 (vl : AV) (o0 : AO) (t : List Nat) (b : Ln) (c : Cap) (i : Nat) (m : Nat) (x : Nat) (h : Hs) : ASt := mkSt [(0, o0), (1, AO.cells (trow t) true), (2, AO.cells [AV.int IntKind.u64 (Int.ofNat (m + 1)), AV.int IntKind.u64 (Int.ofNat 0), AV.int IntKind.u64 (Hs.i0 h), AV.int IntKind.u64 (Hs.i1 h), AV.int IntKind.u64 (Int.ofNat (m + 1)), AV.int IntKind.u64 (Int.ofNat 0), AV.int IntKind.u64 (Hs.i0 h), AV.int IntKind.u64 (Hs.i1 h)] true)] 12
theorem vcX3n (vl : AV) (o0 : AO) (t : List Nat) (b : Ln) (c : Cap) (i : Nat) (m : Nat) (x : Nat) (h : Hs) (Q : Exit × AFr × ASt → Prop) :
  (still (vcX3n_s0 vl o0 t b c i m x h) (aIndexAddr E 78 vl (AV.int IntKind.i64 (Int.ofNat i))) = some (AV.ptr (some (0, 0 + i * 1)), vcX3n_s0 vl o0 t b c i m x h) ∧ aLoad E 3 (AV.ptr (some (0, 0 + i * 1))) (vcX3n_s0 vl o0 t b c i m x h) = some (AV.int IntKind.i64 (Int.ofNat 3), vcX3n_s0 vl o0 t b c i m x h) ∧ still (vcX3n_s0 vl o0 t b c i m x h) (aIndexAddr E 78 vl (AV.int IntKind.i64 (Int.ofNat i))) = some (AV.ptr (some (0, 0 + i * 1)), vcX3n_s0 vl o0 t b c i m x h) ∧ aLoad E 3 (AV.ptr (some (0, 0 + i * 1))) (vcX3n_s0 vl o0 t b c i m x h) = some (AV.int IntKind.i64 (Int.ofNat 3), vcX3n_s0 vl o0 t b c i m x h) ∧ holdsO [(some (AV.agg [AV.int IntKind.u64 (Int.ofNat (m + 1)), AV.int IntKind.u64 (Int.ofNat 0), AV.int IntKind.u64 (Hs.i0 h), AV.int IntKind.u64 (Hs.i1 h)]), AV.agg [AV.int IntKind.u64 (Int.ofNat (m + 1)), AV.int IntKind.u64 (Int.ofNat 0), AV.int IntKind.u64 (Hs.i0 h), AV.int IntKind.u64 (Hs.i1 h)])] ∧ Q (Exit.normal, xFr [(0, vl), (3, AV.slice (some (1, 0)) (List.length t) c), (4, AV.ptr (some (2, 0))), (5, AV.int IntKind.i64 (Int.ofNat i))] 184, vcX3n_s1 vl o0 t b c i m x h)) =
  (tX3n vl o0 t b c i m x h).allY (fun r => Q (canR [0, 3, 4, 5] [0, 1, 2] r)) (An.v (AV.ptr (some (0, 0 + i * 1)), vcX3n_s0 vl o0 t b c i m x h) (An.v (AV.int IntKind.i64 (Int.ofNat 3), vcX3n_s0 vl o0 t b c i m x h) (An.v (AV.ptr (some (0, 0 + i * 1)), vcX3n_s0 vl o0 t b c i m x h) (An.v (AV.int IntKind.i64 (Int.ofNat 3), vcX3n_s0 vl o0 t b c i m x h) An.nil)))) := by kernel_rfl
noncomputable def vcX3s_s0 (vl : AV) (o0 : AO) (t : List Nat) (b : Ln) (c : Cap) (i : Nat) (m : Nat) (x : Nat) (h : Hs) : ASt := mkSt [(0, o0), (1, AO.cells (trow t) true), (2, AO.cells [AV.int IntKind.u64 (Int.ofNat (b.c + 1)), AV.int IntKind.u64 (bI b.b), AV.int IntKind.u64 (Hs.i0 b.h), AV.int IntKind.u64 (Hs.i1 b.h), AV.int IntKind.u64 (Int.ofNat (m + 1)), AV.int IntKind.u64 (bI (some x)), AV.int IntKind.u64 (Hs.i0 h), AV.int IntKind.u64 (Hs.i1 h)] true)] 3
noncomputable def vcX3s_s1 (vl : AV) (o0 : AO) (t : List Nat) (b : Ln) (c : Cap) (i : Nat) (m : Nat) (x : Nat) (h : Hs) : ASt := mkSt [(0, o0), (1, AO.cells (trow t) true), (2, AO.cells [AV.int IntKind.u64 (Int.ofNat (m + 1)), AV.int IntKind.u64 (Int.ofNat 0), AV.int IntKind.u64 (bI (some x)), AV.int IntKind.u64 (Hs.i0 h), AV.int IntKind.u64 (Int.ofNat (m + 1)), AV.int IntKind.u64 (Int.ofNat 0), AV.int IntKind.u64 (bI (some x)), AV.int IntKind.u64 (Hs.i0 h)] true)] 12
theorem vcX3s (vl : AV) (o0 : AO) (t : List Nat) (b : Ln) (c : Cap) (i : Nat) (m : Nat) (x : Nat) (h : Hs) (Q : Exit × AFr × ASt → Prop) :
  (still (vcX3s_s0 vl o0 t b c i m x h) (aIndexAddr E 78 vl (AV.int IntKind.i64 (Int.ofNat i))) = some (AV.ptr (some (0, 0 + i * 1)), vcX3s_s0 vl o0 t b c i m x h) ∧ aLoad E 3 (AV.ptr (some (0, 0 + i * 1))) (vcX3s_s0 vl o0 t b c i m x h) = some (AV.int IntKind.i64 (Int.ofNat 3), vcX3s_s0 vl o0 t b c i m x h) ∧ still (vcX3s_s0 vl o0 t b c i m x h) (aIndexAddr E 78 vl (AV.int IntKind.i64 (Int.ofNat i))) = some (AV.ptr (some (0, 0 + i * 1)), vcX3s_s0 vl o0 t b c i m x h) ∧ aLoad E 3 (AV.ptr (some (0, 0 + i * 1))) (vcX3s_s0 vl o0 t b c i m x h) = some (AV.int IntKind.i64 (Int.ofNat 3), vcX3s_s0 vl o0 t b c i m x h) ∧ holdsO [(some (AV.agg [AV.int IntKind.u64 (Int.ofNat (m + 1)), AV.int IntKind.u64 (Int.ofNat 0), AV.int IntKind.u64 (bI (some x)), AV.int IntKind.u64 (Hs.i0 h)]), AV.agg [AV.int IntKind.u64 (Int.ofNat (m + 1)), AV.int IntKind.u64 (Int.ofNat 0), AV.int IntKind.u64 (bI (some x)), AV.int IntKind.u64 (Hs.i0 h)])] ∧ Q (Exit.normal, xFr [(0, vl), (3, AV.slice (some (1, 0)) (List.length t) c), (4, AV.ptr (some (2, 0))), (5, AV.int IntKind.i64 (Int.ofNat i))] 184, vcX3s_s1 vl o0 t b c i m x h)) =
  (tX3s vl o0 t b c i m x h).allY (fun r => Q (canR [0, 3, 4, 5] [0, 1, 2] r)) (An.v (AV.ptr (some (0, 0 + i * 1)), vcX3s_s0 vl o0 t b c i m x h) (An.v (AV.int IntKind.i64 (Int.ofNat 3), vcX3s_s0 vl o0 t b c i m x h) (An.v (AV.ptr (some (0, 0 + i * 1)), vcX3s_s0 vl o0 t b c i m x h) (An.v (AV.int IntKind.i64 (Int.ofNat 3), vcX3s_s0 vl o0 t b c i m x h) An.nil)))) := by kernel_rfl
noncomputable def vcX0k_s0 (vl : AV) (o0 : AO) (b : Ln) (i : Nat) (m : Nat) (h : Hs) : ASt := mkSt [(0, o0), (1, AO.cells [AV.int IntKind.i64 (Int.ofNat 0), AV.int IntKind.i64 (Int.ofNat 0)] true), (2, AO.cells [AV.int IntKind.u64 (Int.ofNat (m + 1)), AV.int IntKind.u64 (Int.ofNat 0), AV.int IntKind.u64 (Hs.i0 h), AV.int IntKind.u64 (Hs.i1 h), AV.int IntKind.u64 (Int.ofNat (b.c + 1)), AV.int IntKind.u64 (bI b.b), AV.int IntKind.u64 (Hs.i0 b.h), AV.int IntKind.u64 (Hs.i1 b.h)] true)] 3
noncomputable def vcX0k_s1 (vl : AV) (o0 : AO) (b : Ln) (i : Nat) (m : Nat) (h : Hs) : ASt := mkSt [(0, o0), (1, AO.cells [AV.int IntKind.i64 (Int.ofNat 0), AV.int IntKind.i64 (Int.ofNat 0)] true), (2, AO.cells [AV.int IntKind.u64 (Int.ofNat (m + 1)), AV.int IntKind.u64 (Int.ofNat 0), AV.int IntKind.u64 (Hs.i0 h), AV.int IntKind.u64 (Hs.i1 h), AV.int IntKind.u64 (Int.ofNat (b.c + 1)), AV.int IntKind.u64 (bI b.b), AV.int IntKind.u64 (Hs.i0 b.h), AV.int IntKind.u64 (Hs.i1 b.h)] true), (3, AO.cells [AV.int IntKind.u64 (Int.ofNat 2), AV.int IntKind.u64 (Int.ofNat (m + 1)), AV.int IntKind.u64 (Hs.i0 h), AV.int IntKind.u64 (Hs.i1 h)] true), (4, AO.cells [AV.int IntKind.u64 (Int.ofNat 2), AV.int IntKind.u64 (Int.ofNat (m + 1)), AV.int IntKind.u64 (Hs.i0 h), AV.int IntKind.u64 (Hs.i1 h)] true), (5, AO.cells [AV.int IntKind.u64 (Int.ofNat 2), AV.int IntKind.u64 (Int.ofNat (m + 1)), AV.int IntKind.u64 (Hs.i0 h), AV.int IntKind.u64 (Hs.i1 h)] true)] 6
noncomputable def vcX0k_s2 (vl : AV) (o0 : AO) (b : Ln) (i : Nat) (m : Nat) (h : Hs) : ASt := mkSt [(0, o0), (1, AO.cells [AV.int IntKind.i64 (Int.ofNat 0), AV.int IntKind.i64 (Int.ofNat 0)] true), (2, AO.cells [AV.int IntKind.u64 (Int.ofNat (m + 1)), AV.int IntKind.u64 (Int.ofNat 0), AV.int IntKind.u64 (Hs.i0 h), AV.int IntKind.u64 (Hs.i1 h), AV.int IntKind.u64 (Int.ofNat (b.c + 1)), AV.int IntKind.u64 (bI b.b), AV.int IntKind.u64 (Hs.i0 b.h), AV.int IntKind.u64 (Hs.i1 b.h)] true), (3, AO.cells [AV.int IntKind.u64 (Int.ofNat 2), AV.int IntKind.u64 (Int.ofNat (m + 1)), AV.int IntKind.u64 (Hs.i0 h), AV.int IntKind.u64 (Hs.i1 h)] true), (4, AO.cells [AV.int IntKind.u64 (Int.ofNat 2), AV.int IntKind.u64 (Int.ofNat (m + 1)), AV.int IntKind.u64 (Hs.i0 h), AV.int IntKind.u64 (Hs.i1 h)] true), (5, AO.cells [AV.int IntKind.u64 (Int.ofNat 2), AV.int IntKind.u64 (Int.ofNat (m + 1)), AV.int IntKind.u64 (Hs.i0 h), AV.int IntKind.u64 (Hs.i1 h)] true), (6, AO.cells [AV.int IntKind.i64 (Int.ofNat (m + 1))] true), (7, AO.cells [AV.int IntKind.i64 (Int.ofNat 0), AV.int IntKind.i64 (Int.ofNat 0), AV.int IntKind.i64 (Int.ofNat (m + 1))] true)] 15
noncomputable def vcX0k_s3 (vl : AV) (o0 : AO) (b : Ln) (i : Nat) (m : Nat) (h : Hs) : ASt := mkSt [(0, o0), (2, AO.cells [AV.int IntKind.u64 (Int.ofNat 2), AV.int IntKind.u64 (Int.ofNat (m + 1)), AV.int IntKind.u64 (Hs.i0 h), AV.int IntKind.u64 (Hs.i1 h), AV.int IntKind.u64 (Int.ofNat (b.c + 1)), AV.int IntKind.u64 (bI b.b), AV.int IntKind.u64 (Hs.i0 b.h), AV.int IntKind.u64 (Hs.i1 b.h)] true), (7, AO.cells [AV.int IntKind.i64 (Int.ofNat 0), AV.int IntKind.i64 (Int.ofNat 0), AV.int IntKind.i64 (Int.ofNat (m + 1))] true)] 15
theorem vcX0k (vl : AV) (o0 : AO) (b : Ln) (i : Nat) (m : Nat) (h : Hs) (Q : Exit × AFr × ASt → Prop) :
  (still (vcX0k_s0 vl o0 b i m h) (aIndexAddr E 78 vl (AV.int IntKind.i64 (Int.ofNat i))) = some (AV.ptr (some (0, 0 + i * 1)), vcX0k_s0 vl o0 b i m h) ∧ aLoad E 3 (AV.ptr (some (0, 0 + i * 1))) (vcX0k_s0 vl o0 b i m h) = some (AV.int IntKind.i64 (Int.ofNat 0), vcX0k_s0 vl o0 b i m h) ∧ still (vcX0k_s0 vl o0 b i m h) (aIndexAddr E 78 vl (AV.int IntKind.i64 (Int.ofNat i))) = some (AV.ptr (some (0, 0 + i * 1)), vcX0k_s0 vl o0 b i m h) ∧ aLoad E 3 (AV.ptr (some (0, 0 + i * 1))) (vcX0k_s0 vl o0 b i m h) = some (AV.int IntKind.i64 (Int.ofNat 0), vcX0k_s0 vl o0 b i m h) ∧ still (vcX0k_s1 vl o0 b i m h) (aIndexAddr E 78 vl (AV.int IntKind.i64 (Int.ofNat i))) = some (AV.ptr (some (0, 0 + i * 1)), vcX0k_s1 vl o0 b i m h) ∧ aLoad E 3 (AV.ptr (some (0, 0 + i * 1))) (vcX0k_s1 vl o0 b i m h) = some (AV.int IntKind.i64 (Int.ofNat 0), vcX0k_s1 vl o0 b i m h) ∧ aConvert E 48 3 (AV.int IntKind.u64 (Int.ofNat (m + 1))) (vcX0k_s1 vl o0 b i m h) = some (AV.int IntKind.i64 (Int.ofNat (m + 1)), vcX0k_s1 vl o0 b i m h) ∧ still (vcX0k_s2 vl o0 b i m h) (aIndexAddr E 78 vl (AV.int IntKind.i64 (Int.ofNat i))) = some (AV.ptr (some (0, 0 + i * 1)), vcX0k_s2 vl o0 b i m h) ∧ aLoad E 3 (AV.ptr (some (0, 0 + i * 1))) (vcX0k_s2 vl o0 b i m h) = some (AV.int IntKind.i64 (Int.ofNat 0), vcX0k_s2 vl o0 b i m h) ∧ holdsO [] ∧ Q (Exit.normal, xFr [(0, vl), (3, AV.slice (some (7, 0)) 3 (Cap.rest 1)), (4, AV.ptr (some (2, 0))), (5, AV.int IntKind.i64 (Int.ofNat i))] 184, vcX0k_s3 vl o0 b i m h)) =
  (tX0k vl o0 b i m h).allY (fun r => Q (canR [0, 3, 4, 5] [0, 2, 7] r)) (An.v (AV.ptr (some (0, 0 + i * 1)), vcX0k_s0 vl o0 b i m h) (An.v (AV.int IntKind.i64 (Int.ofNat 0), vcX0k_s0 vl o0 b i m h) (An.v (AV.ptr (some (0, 0 + i * 1)), vcX0k_s0 vl o0 b i m h) (An.v (AV.int IntKind.i64 (Int.ofNat 0), vcX0k_s0 vl o0 b i m h) (An.v (AV.ptr (some (0, 0 + i * 1)), vcX0k_s1 vl o0 b i m h) (An.v (AV.int IntKind.i64 (Int.ofNat 0), vcX0k_s1 vl o0 b i m h) (An.v (AV.int IntKind.i64 (Int.ofNat (m + 1)), vcX0k_s1 vl o0 b i m h) (An.v (AV.ptr (some (0, 0 + i * 1)), vcX0k_s2 vl o0 b i m h) (An.v (AV.int IntKind.i64 (Int.ofNat 0), vcX0k_s2 vl o0 b i m h) An.nil))))))))) := by kernel_rfl
noncomputable def vcX1k_s0 (vl : AV) (o0 : AO) (b : Ln) (i : Nat) (m : Nat) (h : Hs) : ASt := mkSt [(0, o0), (1, AO.cells [AV.int IntKind.i64 (Int.ofNat 0), AV.int IntKind.i64 (Int.ofNat 0)] true), (2, AO.cells [AV.int IntKind.u64 (Int.ofNat (b.c + 1)), AV.int IntKind.u64 (bI b.b), AV.int IntKind.u64 (Hs.i0 b.h), AV.int IntKind.u64 (Hs.i1 b.h), AV.int IntKind.u64 (Int.ofNat (m + 1)), AV.int IntKind.u64 (Int.ofNat 0), AV.int IntKind.u64 (Hs.i0 h), AV.int IntKind.u64 (Hs.i1 h)] true)] 3
noncomputable def vcX1k_s1 (vl : AV) (o0 : AO) (b : Ln) (i : Nat) (m : Nat) (h : Hs) : ASt := mkSt [(0, o0), (1, AO.cells [AV.int IntKind.i64 (Int.ofNat 0), AV.int IntKind.i64 (Int.ofNat 0)] true), (2, AO.cells [AV.int IntKind.u64 (Int.ofNat (b.c + 1)), AV.int IntKind.u64 (bI b.b), AV.int IntKind.u64 (Hs.i0 b.h), AV.int IntKind.u64 (Hs.i1 b.h), AV.int IntKind.u64 (Int.ofNat (m + 1)), AV.int IntKind.u64 (Int.ofNat 0), AV.int IntKind.u64 (Hs.i0 h), AV.int IntKind.u64 (Hs.i1 h)] true), (3, AO.cells [AV.int IntKind.u64 (Int.ofNat 2), AV.int IntKind.u64 (Int.ofNat (m + 1)), AV.int IntKind.u64 (Hs.i0 h), AV.int IntKind.u64 (Hs.i1 h)] true), (4, AO.cells [AV.int IntKind.u64 (Int.ofNat 2), AV.int IntKind.u64 (Int.ofNat (m + 1)), AV.int IntKind.u64 (Hs.i0 h), AV.int IntKind.u64 (Hs.i1 h)] true), (5, AO.cells [AV.int IntKind.u64 (Int.ofNat 2), AV.int IntKind.u64 (Int.ofNat (m + 1)), AV.int IntKind.u64 (Hs.i0 h), AV.int IntKind.u64 (Hs.i1 h)] true)] 6
noncomputable def vcX1k_s2 (vl : AV) (o0 : AO) (b : Ln) (i : Nat) (m : Nat) (h : Hs) : ASt := mkSt [(0, o0), (1, AO.cells [AV.int IntKind.i64 (Int.ofNat 0), AV.int IntKind.i64 (Int.ofNat 0)] true), (2, AO.cells [AV.int IntKind.u64 (Int.ofNat (b.c + 1)), AV.int IntKind.u64 (bI b.b), AV.int IntKind.u64 (Hs.i0 b.h), AV.int IntKind.u64 (Hs.i1 b.h), AV.int IntKind.u64 (Int.ofNat (m + 1)), AV.int IntKind.u64 (Int.ofNat 0), AV.int IntKind.u64 (Hs.i0 h), AV.int IntKind.u64 (Hs.i1 h)] true), (3, AO.cells [AV.int IntKind.u64 (Int.ofNat 2), AV.int IntKind.u64 (Int.ofNat (m + 1)), AV.int IntKind.u64 (Hs.i0 h), AV.int IntKind.u64 (Hs.i1 h)] true), (4, AO.cells [AV.int IntKind.u64 (Int.ofNat 2), AV.int IntKind.u64 (Int.ofNat (m + 1)), AV.int IntKind.u64 (Hs.i0 h), AV.int IntKind.u64 (Hs.i1 h)] true), (5, AO.cells [AV.int IntKind.u64 (Int.ofNat 2), AV.int IntKind.u64 (Int.ofNat (m + 1)), AV.int IntKind.u64 (Hs.i0 h), AV.int IntKind.u64 (Hs.i1 h)] true), (6, AO.cells [AV.int IntKind.i64 (Int.ofNat (m + 1))] true), (7, AO.cells [AV.int IntKind.i64 (Int.ofNat 0), AV.int IntKind.i64 (Int.ofNat 0), AV.int IntKind.i64 (Int.ofNat (m + 1))] true)] 15
noncomputable def vcX1k_s3 (vl : AV) (o0 : AO) (b : Ln) (i : Nat) (m : Nat) (h : Hs) : ASt := mkSt [(0, o0), (2, AO.cells [AV.int IntKind.u64 (Int.ofNat (b.c + 1)), AV.int IntKind.u64 (bI b.b), AV.int IntKind.u64 (Hs.i0 b.h), AV.int IntKind.u64 (Hs.i1 b.h), AV.int IntKind.u64 (Int.ofNat 2), AV.int IntKind.u64 (Int.ofNat (m + 1)), AV.int IntKind.u64 (Hs.i0 h), AV.int IntKind.u64 (Hs.i1 h)] true), (7, AO.cells [AV.int IntKind.i64 (Int.ofNat 0), AV.int IntKind.i64 (Int.ofNat 0), AV.int IntKind.i64 (Int.ofNat (m + 1))] true)] 15
theorem vcX1k (vl : AV) (o0 : AO) (b : Ln) (i : Nat) (m : Nat) (h : Hs) (Q : Exit × AFr × ASt → Prop) :
  (still (vcX1k_s0 vl o0 b i m h) (aIndexAddr E 78 vl (AV.int IntKind.i64 (Int.ofNat i))) = some (AV.ptr (some (0, 0 + i * 1)), vcX1k_s0 vl o0 b i m h) ∧ aLoad E 3 (AV.ptr (some (0, 0 + i * 1))) (vcX1k_s0 vl o0 b i m h) = some (AV.int IntKind.i64 (Int.ofNat 1), vcX1k_s0 vl o0 b i m h) ∧ still (vcX1k_s0 vl o0 b i m h) (aIndexAddr E 78 vl (AV.int IntKind.i64 (Int.ofNat i))) = some (AV.ptr (some (0, 0 + i * 1)), vcX1k_s0 vl o0 b i m h) ∧ aLoad E 3 (AV.ptr (some (0, 0 + i * 1))) (vcX1k_s0 vl o0 b i m h) = some (AV.int IntKind.i64 (Int.ofNat 1), vcX1k_s0 vl o0 b i m h) ∧ still (vcX1k_s1 vl o0 b i m h) (aIndexAddr E 78 vl (AV.int IntKind.i64 (Int.ofNat i))) = some (AV.ptr (some (0, 0 + i * 1)), vcX1k_s1 vl o0 b i m h) ∧ aLoad E 3 (AV.ptr (some (0, 0 + i * 1))) (vcX1k_s1 vl o0 b i m h) = some (AV.int IntKind.i64 (Int.ofNat 1), vcX1k_s1 vl o0 b i m h) ∧ aConvert E 48 3 (AV.int IntKind.u64 (Int.ofNat (m + 1))) (vcX1k_s1 vl o0 b i m h) = some (AV.int IntKind.i64 (Int.ofNat (m + 1)), vcX1k_s1 vl o0 b i m h) ∧ still (vcX1k_s2 vl o0 b i m h) (aIndexAddr E 78 vl (AV.int IntKind.i64 (Int.ofNat i))) = some (AV.ptr (some (0, 0 + i * 1)), vcX1k_s2 vl o0 b i m h) ∧ aLoad E 3 (AV.ptr (some (0, 0 + i * 1))) (vcX1k_s2 vl o0 b i m h) = some (AV.int IntKind.i64 (Int.ofNat 1), vcX1k_s2 vl o0 b i m h) ∧ holdsO [] ∧ Q (Exit.normal, xFr [(0, vl), (3, AV.slice (some (7, 0)) 3 (Cap.rest 1)), (4, AV.ptr (some (2, 0))), (5, AV.int IntKind.i64 (Int.ofNat i))] 184, vcX1k_s3 vl o0 b i m h)) =
  (tX1k vl o0 b i m h).allY (fun r => Q (canR [0, 3, 4, 5] [0, 2, 7] r)) (An.v (AV.ptr (some (0, 0 + i * 1)), vcX1k_s0 vl o0 b i m h) (An.v (AV.int IntKind.i64 (Int.ofNat 1), vcX1k_s0 vl o0 b i m h) (An.v (AV.ptr (some (0, 0 + i * 1)), vcX1k_s0 vl o0 b i m h) (An.v (AV.int IntKind.i64 (Int.ofNat 1), vcX1k_s0 vl o0 b i m h) (An.v (AV.ptr (some (0, 0 + i * 1)), vcX1k_s1 vl o0 b i m h) (An.v (AV.int IntKind.i64 (Int.ofNat 1), vcX1k_s1 vl o0 b i m h) (An.v (AV.int IntKind.i64 (Int.ofNat (m + 1)), vcX1k_s1 vl o0 b i m h) (An.v (AV.ptr (some (0, 0 + i * 1)), vcX1k_s2 vl o0 b i m h) (An.v (AV.int IntKind.i64 (Int.ofNat 1), vcX1k_s2 vl o0 b i m h) An.nil))))))))) := by kernel_rfl
noncomputable def vcD1_s0 (vl : AV) (o0 : AO) (t : List Nat) (a : Ln) (b : Ln) (c : Cap) (i : Nat) (fa : Nat) (fb : Nat) (ua : Bool) (ub : Bool) : ASt := mkSt [(0, o0), (1, AO.cells (trow t) true), (2, AO.cells [AV.int IntKind.u64 (Int.ofNat (a.c + 1)), AV.int IntKind.u64 (bI a.b), AV.int IntKind.u64 (Hs.i0 a.h), AV.int IntKind.u64 (Hs.i1 a.h), AV.int IntKind.u64 (Int.ofNat (b.c + 1)), AV.int IntKind.u64 (bI b.b), AV.int IntKind.u64 (Hs.i0 b.h), AV.int IntKind.u64 (Hs.i1 b.h)] true), (7, AO.cells [AV.int IntKind.u64 (Int.ofNat (a.c + 1)), AV.int IntKind.u64 (bI a.b), AV.int IntKind.u64 (Hs.i0 a.h), AV.int IntKind.u64 (Hs.i1 a.h)] true), (8, AO.cells [AV.int IntKind.u64 (Int.ofNat (b.c + 1)), AV.int IntKind.u64 (bI b.b), AV.int IntKind.u64 (Hs.i0 b.h), AV.int IntKind.u64 (Hs.i1 b.h)] true)] 11
noncomputable def vcD1_s1 (vl : AV) (o0 : AO) (t : List Nat) (a : Ln) (b : Ln) (c : Cap) (i : Nat) (fa : Nat) (fb : Nat) (ua : Bool) (ub : Bool) : ASt := mkSt [(0, o0), (1, AO.cells (trow t) true), (2, AO.cells [AV.int IntKind.u64 (Int.ofNat (a.c + 1)), AV.int IntKind.u64 (bI a.b), AV.int IntKind.u64 (Hs.i0 a.h), AV.int IntKind.u64 (Hs.i1 a.h), AV.int IntKind.u64 (Int.ofNat (b.c + 1)), AV.int IntKind.u64 (bI b.b), AV.int IntKind.u64 (Hs.i0 b.h), AV.int IntKind.u64 (Hs.i1 b.h)] true), (7, AO.cells [AV.int IntKind.u64 (Int.ofNat (a.c + 1)), AV.int IntKind.u64 (bI a.b), AV.int IntKind.u64 (Hs.i0 a.h), AV.int IntKind.u64 (Hs.i1 a.h)] true), (8, AO.cells [AV.int IntKind.u64 (Int.ofNat (b.c + 1)), AV.int IntKind.u64 (bI b.b), AV.int IntKind.u64 (Hs.i0 b.h), AV.int IntKind.u64 (Hs.i1 b.h)] true)] 19
theorem vcD1 (vl : AV) (o0 : AO) (t : List Nat) (a : Ln) (b : Ln) (c : Cap) (i : Nat) (fa : Nat) (fb : Nat) (ua : Bool) (ub : Bool) (Q : Exit × AFr × ASt → Prop) (Q2 : Exit × Option AV → Prop) :
  (holdsO [(some (AV.agg [AV.int IntKind.u64 (Int.ofNat (b.c + 1)), AV.int IntKind.u64 (bI b.b), AV.int IntKind.u64 (Hs.i0 b.h), AV.int IntKind.u64 (Hs.i1 b.h)]), AV.agg [AV.int IntKind.u64 (Int.ofNat (b.c + 1)), AV.int IntKind.u64 (bI b.b), AV.int IntKind.u64 (Hs.i0 b.h), AV.int IntKind.u64 (Hs.i1 b.h)])] ∧ (M E (drawA E) sm 77).call 34 [AV.agg [AV.int IntKind.u64 (Int.ofNat (a.c + 1)), AV.int IntKind.u64 (bI a.b), AV.int IntKind.u64 (Hs.i0 a.h), AV.int IntKind.u64 (Hs.i1 a.h)], AV.agg [AV.int IntKind.u64 (Int.ofNat (b.c + 1)), AV.int IntKind.u64 (bI b.b), AV.int IntKind.u64 (Hs.i0 b.h), AV.int IntKind.u64 (Hs.i1 b.h)]] (vcD1_s0 vl o0 t a b c i fa fb ua ub) = some (AV.int IntKind.i64 (Int.ofNat (cmpN a b)), vcD1_s0 vl o0 t a b c i fa fb ua ub) ∧ aConvert E 48 3 (AV.int IntKind.u64 (Int.ofNat (a.c + 1))) (vcD1_s1 vl o0 t a b c i fa fb ua ub) = some (AV.int IntKind.i64 (Int.ofNat (a.c + 1)), vcD1_s1 vl o0 t a b c i fa fb ua ub) ∧ aConvert E 48 3 (AV.int IntKind.u64 (Int.ofNat (b.c + 1))) (vcD1_s1 vl o0 t a b c i fa fb ua ub) = some (AV.int IntKind.i64 (Int.ofNat (b.c + 1)), vcD1_s1 vl o0 t a b c i fa fb ua ub) ∧ ifB (!ltF (Int.ofNat (a.c + 1)) (Int.ofNat (List.length t))) (Q2 (Exit.ret, some (AV.bool false))) (ifB (!ltF (Int.ofNat (b.c + 1)) (Int.ofNat (List.length t))) (Q2 (Exit.ret, some (AV.bool false))) ((M E (drawA E) sm 74).call 36 [AV.slice (some (1, 0)) (List.length t) c, AV.int IntKind.i64 (Int.ofNat (a.c + 1)), AV.int IntKind.i64 (Int.ofNat (b.c + 1))] (vcD1_s1 vl o0 t a b c i fa fb ua ub) = some (AV.tuple [AV.int IntKind.i64 (Int.ofNat fa), AV.bool ua], vcD1_s1 vl o0 t a b c i fa fb ua ub) ∧ (M E (drawA E) sm 73).call 36 [AV.slice (some (1, 0)) (List.length t) c, AV.int IntKind.i64 (Int.ofNat (b.c + 1)), AV.int IntKind.i64 (Int.ofNat (a.c + 1))] (vcD1_s1 vl o0 t a b c i fa fb ua ub) = some (AV.tuple [AV.int IntKind.i64 (Int.ofNat fb), AV.bool ub], vcD1_s1 vl o0 t a b c i fa fb ua ub) ∧ Q (Exit.normal, xFr [(0, vl), (3, AV.slice (some (1, 0)) (List.length t) c), (4, AV.ptr (some (2, 0))), (5, AV.int IntKind.i64 (Int.ofNat i)), (10, AV.ptr (some (7, 0))), (11, AV.ptr (some (8, 0))), (12, AV.int IntKind.i64 (Int.ofNat (cmpN a b))), (13, AV.int IntKind.i64 (Int.ofNat (a.c + 1))), (14, AV.int IntKind.i64 (Int.ofNat (b.c + 1))), (15, AV.int IntKind.i64 (Int.ofNat fa)), (16, AV.bool ua), (17, AV.int IntKind.i64 (Int.ofNat fb)), (18, AV.bool ub), (19, AV.int IntKind.i64 (Int.ofNat 8))] 184, vcD1_s1 vl o0 t a b c i fa fb ua ub)))) =
  (tD1 vl o0 t a b c i fa fb ua ub).allY (mixQ E Try.f8 [0, 3, 4, 5, 10, 11, 12, 13, 14, 15, 16, 17, 18, 19] [0, 1, 2, 3, 4, 5, 6, 7, 8, 9, 10, 11, 12] Q Q2) (An.v (AV.int IntKind.i64 (Int.ofNat (cmpN a b)), vcD1_s0 vl o0 t a b c i fa fb ua ub) (An.v (AV.int IntKind.i64 (Int.ofNat (a.c + 1)), vcD1_s1 vl o0 t a b c i fa fb ua ub) (An.v (AV.int IntKind.i64 (Int.ofNat (b.c + 1)), vcD1_s1 vl o0 t a b c i fa fb ua ub) (An.b An.nil (An.b An.nil (An.v (AV.tuple [AV.int IntKind.i64 (Int.ofNat fa), AV.bool ua], vcD1_s1 vl o0 t a b c i fa fb ua ub) (An.v (AV.tuple [AV.int IntKind.i64 (Int.ofNat fb), AV.bool ub], vcD1_s1 vl o0 t a b c i fa fb ua ub) An.nil))))))) := by kernel_rfl
end Go.Proofs.Ytidmijpfoodkoaa.utr
end

section
open Go Go.Ax Go.Proofs.Ytidmijpfoodkoaa Go.Proofs.Ytidmijpfoodkoaa.Ut
namespace Go.Proofs.Ytidmijpfoodkoaa.utr
theorem Trip_cond {P : Program} {kb : Nat} {ro : Option Nat} {fr : AFr} {st : ASt} {Q : Exit × AFr × ASt → Prop} {o : Operand} {x y : Code} {v : Bool} (ho : evA fr o = some (.bool v)) (h1 : v = true → Trip P kb ro x fr st Q) (h2 : v = false → Trip P kb ro y fr st Q) :
    Trip P kb ro (.cond o x y) fr st Q := fun B w0 κ hb ι w a rl hk g1 g2 g3 => by
  have hxv := evA_ok g2.hf ho
  generalize hxe : a.eval o = xv at hxv
  cases hxv
  refine wpIn_cond hxe ?_
  cases v
  · exact h2 rfl B w0 κ hb ι w a rl hk g1 g2 g3
  · exact h1 rfl B w0 κ hb ι w a rl hk g1 g2 g3
theorem ap79 : appT E 79 79 = some (1, 8) := by kernel_rfl
theorem sl78 : sliceT E 78 = some 1 := by kernel_rfl
theorem app79 {t : List Nat} (S : ASt) (q x : Nat) (g1 : S.h.get 1 = some (.cells (trow t) true)) (g : S.h.get q = some (.cells [nI x] true)) (hl : t.length ≤ 100) :
    aBuiltinM E .append [79, 79] [.slice (some (1, 0)) t.length (.rest 1), .slice (some (q, 0)) 1 (.known 1)] S = some (.slice (some (S.next, 0)) (t.length + 1) (.rest 1), (S.put 1 .dead).add (.cells (trow t ++ [nI x]) true)) :=
  append_grow_at ap79 rfl (first_at g rfl) g1 (by simp [trow]) (by omega) (by omega) (by omega) (by omega)
theorem conv2_at {n : Nat} (h : n < 9223372036854775808) (st : ASt) : aConvert E 3 48 (nI n) st = some (.int .u64 (.ofNat n), st) := by
  have e : aConvert E 3 48 (nI n) st = some (.int .u64 (wrapF .u64 (.ofNat n)), st) := by kernel_rfl
  have e2 : wrapF .u64 (.ofNat n) = .ofNat n := by
    rw [wrapF_eq]
    simp [IntKind.wrap, IntKind.bits, IntKind.signed]
    omega
  rw [e, e2]
theorem call_cmp {st : ASt} {m : Nat} (a b : Ln) : (M E (drawA E) sm (m + 1)).call 34 [.agg (lv a), .agg (lv b)] st = some (nI (cmpN a b), st) := by
  have hs : sm 34 [.agg (lv a), .agg (lv b)] st = some (nI (cmpN a b), st) := by
    obtain ⟨a, ab, ah⟩ := a
    obtain ⟨b, bb, bh⟩ := b
    cases ab <;> cases bb <;> cases ah <;> cases bh <;> rfl
  show (match sm 34 _ st with | some r => some r | none => callF E (M E (drawA E) sm m).ex 34 _ st) = _
  rw [hs]
theorem okA_ok (a : Ln) : holdsO [(some (AV.agg (lv a)), AV.agg (lv a))] := ⟨⟨rfl, by simp [lv, avEq, avsEq]⟩, trivial⟩

/-! ### The plain law, joined -/
theorem memI_iff (x : Nat) : ∀ l : List Nat, memI (.ofNat x) (iI l) = true ↔ x ∈ l
  | [] => by simp [memI, iI]
  | y :: ys => by rw [memI_cons, Bool.or_eq_true, decide_eq_true_eq, memI_iff x ys, List.mem_cons]
theorem iI_eld (l : Ln) : iI (eN l) = eld l := (eld_eN l).symm
end Go.Proofs.Ytidmijpfoodkoaa.utr
end

section
open Go Go.Ax Go.Proofs.Ytidmijpfoodkoaa Go.Proofs.Ytidmijpfoodkoaa.Ut
namespace Go.Proofs.Ytidmijpfoodkoaa.utr
def upP (t : List Nat) (p q : Nat) : Nat × Bool := match abv t p q with
  | some f => (f, true)
  | none => (0, false)
theorem upV_P (t : List Nat) (p q : Nat) : upV t p q = .tuple [nI (upP t p q).1, .bool (upP t p q).2] := by
  unfold upV upP
  cases abv t p q <;> rfl
theorem ver1 {t : List Nat} (ht : Tree t) {p q : Nat} {e : List Nat} (hq0 : 0 < q) (hq : q < t.length) (pq : Pre t q e) (hne : p ≠ q) :
    (bif (upP t p q).2 then leI e.length (upP t p q).1 else false) = memI (.ofNat p) (iI e) := by
  have h := abv_pre ht (p := p) hq0 hq pq
  have hm := memI_iff p e
  rw [Bool.eq_iff_iff, hm]
  unfold upP
  cases ha : abv t p q with
  | none =>
    rw [ha] at h
    simp only [cond_false, Bool.false_eq_true, false_iff]
    intro hc
    obtain ⟨f, hf, _⟩ := h.2 (.inr hc)
    cases hf
  | some f =>
    rw [ha] at h
    simp only [cond_true, leI, ltF_nn, Bool.not_eq_true', decide_eq_false_iff_not]
    constructor
    · intro hl
      rcases h.1 ⟨f, rfl, by omega⟩ with e | e
      · exact absurd e hne
      · exact e
    · intro hc
      obtain ⟨g, hg, hl⟩ := h.2 (.inr hc)
      cases hg
      omega
/-- what is wanted -/
def wantAll (v p q fa fb n m : Nat) (ua ub sh : Bool) : Nat :=
  bif eqF (.ofNat p) (.ofNat q) then 4 else bif (bif ua then leI n fa else false) then 5 else bif (bif ub then leI m fb else false) then 6 else wantN ua ub sh v 8
theorem want_ok {t : List Nat} (ht : Tree t) {a b : Ln} (ha : a.c + 1 < t.length) (hb : b.c + 1 < t.length) (pa : Pre t (a.c + 1) (eN a)) (pb : Pre t (b.c + 1) (eN b)) :
    wantAll (cmpN a b) (a.c + 1) (b.c + 1) (upP t (a.c + 1) (b.c + 1)).1 (upP t (b.c + 1) (a.c + 1)).1 (eld b).length (eld a).length (upP t (a.c + 1) (b.c + 1)).2 (upP t (b.c + 1) (a.c + 1)).2 (shV a b) = cmpN a b := by
  unfold wantAll
  cases h0 : eqF (.ofNat (a.c + 1)) (.ofNat (b.c + 1))
  · have hne : a.c + 1 ≠ b.c + 1 := fun e => eqF_f h0 (congrArg Int.ofNat e)
    have v1 := ver1 ht (p := a.c + 1) (by omega) hb pb hne
    have v2 := ver1 ht (p := b.c + 1) (by omega) ha pa (Ne.symm hne)
    rw [eld_len, eld_len, v1, v2]
    have hc : cmpN a b = bif memI (cur a) (eld b) then 5 else bif memI (cur b) (eld a) then 6 else bif anyI (eld b) (eld a) then 7 else 8 := by
      show (bif eqF (cur a) (cur b) then _ else _) = _
      have : eqF (cur a) (cur b) = false := h0
      rw [this]; rfl
    have m1 : memI (.ofNat (a.c + 1)) (iI (eN b)) = memI (cur a) (eld b) := by rw [iI_eld]; rfl
    have m2 : memI (.ofNat (b.c + 1)) (iI (eN a)) = memI (cur b) (eld a) := by rw [iI_eld]; rfl
    have m3 : shV a b = anyI (eld b) (eld a) := by unfold shV; rw [iI_eld, iI_eld]
    rw [m1, m2, m3, cond_false]
    cases g1 : memI (cur a) (eld b)
    · cases g2 : memI (cur b) (eld a)
      · cases g3 : anyI (eld b) (eld a)
        · simp [hc, g1, g2, g3, wantN]
        · have h7 : cmpN a b = 7 := by simp [hc, g1, g2, g3]
          rw [h7]
          simp only [cond_false]
          unfold wantN
          cases (upP t (a.c + 1) (b.c + 1)).2 <;> cases (upP t (b.c + 1) (a.c + 1)).2 <;> rfl
      · simp [hc, g1, g2]
    · simp [hc, g1]
  · have : cmpN a b = 4 := by
      show (bif eqF (cur a) (cur b) then _ else _) = _
      have : eqF (cur a) (cur b) = true := h0
      rw [this]; rfl
    rw [this]; rfl

section
variable {vl : AV} {o0 : AO} {t : List Nat} {a b : Ln} {c : Cap}
theorem frE_D {vl : AV} (kl : KeptV 1 vl) {ids : List Nat} (hp : preB 1 0 ids = true) {n : Nat} (h1 : idxN ids 1 0 = some 1) (h2 : idxN ids 2 0 = some 2) (xs : List (Nat × AV))
    (hx : ∀ p, p ∈ xs → p.1 < 184 ∧ lkp p.1 ([(0, vl), (3, sl1 n c), (4, .ptr (some (2, 0)))] ++ xs) = p.2 ∧ renV ids p.2 = some p.2) :
    frE ids (fr8 vl n c xs) (([(0, vl), (3, sl1 n c), (4, .ptr (some (2, 0)))] ++ xs).map (fun p : Nat × AV => p.1)) = some ([(0, vl), (3, sl1 n c), (4, .ptr (some (2, 0)))] ++ xs) := by
  refine frE_xFr fun p hp' => ?_
  rcases List.mem_append.1 hp' with h | h
  · simp only [List.mem_cons, List.not_mem_nil, or_false] at h
    rcases h with rfl | rfl | rfl
    · exact ⟨by simp, rfl, kl ids hp⟩
    · exact ⟨by simp, rfl, by simp [sl1, renV, h1]⟩
    · exact ⟨by simp, rfl, by simp [renV, h2]⟩
  · exact hx p h
theorem two_refs (a b : Ln) : ∀ c, c ∈ lv a ++ lv b → refsV 0 c := fun c hc => (List.mem_append.1 hc).elim (lv_refs a c) (lv_refs b c)
theorem objD (c0 : Came o0) {n : Nat} : StP [0, 1, 2, 3, 4] (stD o0 t a b n) (oL o0 t a b ++ [(3, .cells (lv a) true), (4, .cells (lv b) true)]) :=
  StP.came c0 rfl (by kernel_rfl) <| .cons 1 _ rfl (by kernel_rfl) (RenO.row (trow_refs t)) <| .cons 2 _ rfl (by kernel_rfl) (RenO.row (two_refs a b)) <| .cons 3 _ rfl (by kernel_rfl) (RenO.row (lv_refs a)) <| .cons 4 _ rfl (by kernel_rfl) (RenO.row (lv_refs b)) .nil
theorem xsD {ids : List Nat} {vl : AV} {n : Nat} {i v p q fa fb w k : Nat} {ua ub z : Bool} (hk : k = 133 ∨ k = 137 ∨ k = 146) (h3 : idxN ids 3 0 = some 3) (h4 : idxN ids 4 0 = some 4) :
    ∀ x, x ∈ [(5, nI i), (10, AV.ptr (some (3, 0))), (11, .ptr (some (4, 0))), (12, nI v), (13, nI p), (14, nI q), (15, nI fa), (16, .bool ua), (17, nI fb), (18, .bool ub), (19, nI w), (k, .bool z)] →
      x.1 < 184 ∧ lkp x.1 ([(0, vl), (3, sl1 n c), (4, .ptr (some (2, 0)))] ++ [(5, nI i), (10, AV.ptr (some (3, 0))), (11, .ptr (some (4, 0))), (12, nI v), (13, nI p), (14, nI q), (15, nI fa), (16, .bool ua), (17, nI fb), (18, .bool ub), (19, nI w), (k, .bool z)]) = x.2 ∧ renV ids x.2 = some x.2 := fun x hx => by
  simp only [List.mem_cons, List.not_mem_nil, or_false] at hx
  rcases hk with rfl | rfl | rfl <;> rcases hx with rfl | rfl | rfl | rfl | rfl | rfl | rfl | rfl | rfl | rfl | rfl | rfl <;>
    exact ⟨by simp, rfl, by simp [renV, nI, h3, h4]⟩
theorem toX (kl : KeptV 1 vl) (c0 : Came o0) {m n i v p q fa fb w k : Nat} {ua ub z : Bool} (hk : k = 133 ∨ k = 137 ∨ k = 146) :
    Wk 1 (frDx vl m c i v p q fa ua fb ub w k z) (stD o0 t a b n) (frDx vl m c i v p q fa ua fb ub w k z) (stD o0 t a b 5) :=
  Wk.heldX [0, 1, 2, 3, 4] rfl rfl _ (frE_D kl rfl rfl rfl _ (xsD hk rfl rfl)) (objD c0)
theorem xD_can {m n i v p q fa fb w k : Nat} {ua ub z : Bool} (hk : k = 133 ∨ k = 137 ∨ k = 146) :
    Wk 1 (frDx vl m c i v p q fa ua fb ub w k z) (stD o0 t a b n) (frD vl m c i v p q fa ua fb ub w) (stD o0 t a b n) := by
  have h := Wk.can 1 kD0 [0, 1, 2, 3, 4] (frDx vl m c i v p q fa ua fb ub w k z) (stD o0 t a b n)
  have e1 : canF kD0 (frDx vl m c i v p q fa ua fb ub w k z) = frD vl m c i v p q fa ua fb ub w := by rcases hk with rfl | rfl | rfl <;> kernel_rfl
  have e2 : canS [0, 1, 2, 3, 4] (stD o0 t a b n) = stD o0 t a b n := by kernel_rfl
  rw [e1, e2] at h
  exact h
theorem X3a : X3 = .seq (seqL X3) (.cond (.tmp 133) (condT (seqR X3)) Y1) := by kernel_rfl
theorem Y1a : Y1 = .seq (seqL Y1) (.cond (.tmp 137) (condT (seqR Y1)) Y2) := by kernel_rfl
theorem Y2a : Y2 = .seq (seqL Y2) (.cond (.tmp 146) (condT (seqR Y2)) Y3) := by kernel_rfl
theorem D8a : dropC 6 D8 = .seq (.block 3 X3) D3 := by kernel_rfl
theorem switch (kl : KeptV 1 vl) (c0 : Came o0) {i v p q fa fb : Nat} {ua ub sh : Bool} (hsh : ∀ m, (M E (drawA E) sm (m + 1)).call 38 [sl1 t.length c, .agg (lv a), .agg (lv b)] (stD o0 t a b 5) = some (.bool sh, stD o0 t a b 5)) :
    Trip Try.prog 1 none X3 (frD vl t.length c i v p q fa ua fb ub 8) (stD o0 t a b 5) (Stops 1 .normal (frD vl t.length c i v p q fa ua fb ub (wantAll v p q fa fb (eld b).length (eld a).length ua ub sh)) (stD o0 t a b 5)) := by
  rw [X3a]
  refine Trip.seq (R := Stops 1 .normal (frDx vl t.length c i v p q fa ua fb ub 8 133 (eqF (.ofNat p) (.ofNat q))) (stD o0 t a b 5)) ((Trip.runY Eok sm_ok (Eq.mp (vcY0 vl o0 t a b c i v p q fa fb 8 ua ub (Stops 1 .normal (frDx vl t.length c i v p q fa ua fb ub 8 133 (eqF (.ofNat p) (.ofNat q))) (stD o0 t a b 5))) ⟨rfl, Wk.refl _ _ _⟩)).mono fun r hr => hr.can) (fun fr' st' hq => Trip.less hq.2 ?_) (fun e fr' st' hne hq => absurd hq.1 hne)
  refine Trip_cond (v := eqF (.ofNat p) (.ofNat q)) (by kernel_rfl) (fun h => Trip.less (xD_can (.inl rfl)) ?_) (fun h => Trip.less (xD_can (.inl rfl)) ?_)
  · have hw : wantAll v p q fa fb (eld b).length (eld a).length ua ub sh = 4 := by unfold wantAll; rw [h]; rfl
    rw [hw]
    exact (Trip.runY Eok sm_ok (Eq.mp (vcA0 vl o0 t a b c i v p q fa fb 8 ua ub (Stops 1 .normal (frD vl t.length c i v p q fa ua fb ub 4) (stD o0 t a b 5))) ⟨rfl, Wk.refl _ _ _⟩)).mono fun r hr => hr.can
  rw [Y1a]
  refine Trip.seq (R := Stops 1 .normal (frDx vl t.length c i v p q fa ua fb ub 8 137 (bif ua then leI (eld b).length fa else false)) (stD o0 t a b 5)) ((Trip.runY Eok sm_ok (Eq.mp (vcY1 vl o0 t a b c i v p q fa fb 8 ua ub (Stops 1 .normal (frDx vl t.length c i v p q fa ua fb ub 8 137 (bif ua then leI (eld b).length fa else false)) (stD o0 t a b 5))) ⟨rfl, toX kl c0 (.inr (.inl rfl))⟩)).mono fun r hr => hr.can) (fun fr' st' hq => Trip.less hq.2 ?_) (fun e fr' st' hne hq => absurd hq.1 hne)
  refine Trip_cond (v := bif ua then leI (eld b).length fa else false) (by kernel_rfl) (fun h1 => Trip.less (xD_can (.inr (.inl rfl))) ?_) (fun h1 => Trip.less (xD_can (.inr (.inl rfl))) ?_)
  · have hw : wantAll v p q fa fb (eld b).length (eld a).length ua ub sh = 5 := by unfold wantAll; rw [h, h1]; rfl
    rw [hw]
    exact (Trip.runY Eok sm_ok (Eq.mp (vcA1 vl o0 t a b c i v p q fa fb 8 ua ub (Stops 1 .normal (frD vl t.length c i v p q fa ua fb ub 5) (stD o0 t a b 5))) ⟨rfl, Wk.refl _ _ _⟩)).mono fun r hr => hr.can
  rw [Y2a]
  refine Trip.seq (R := Stops 1 .normal (frDx vl t.length c i v p q fa ua fb ub 8 146 (bif ub then leI (eld a).length fb else false)) (stD o0 t a b 5)) ((Trip.runY Eok sm_ok (Eq.mp (vcY2 vl o0 t a b c i v p q fa fb 8 ua ub (Stops 1 .normal (frDx vl t.length c i v p q fa ua fb ub 8 146 (bif ub then leI (eld a).length fb else false)) (stD o0 t a b 5))) ⟨rfl, toX kl c0 (.inr (.inr rfl))⟩)).mono fun r hr => hr.can) (fun fr' st' hq => Trip.less hq.2 ?_) (fun e fr' st' hne hq => absurd hq.1 hne)
  refine Trip_cond (v := bif ub then leI (eld a).length fb else false) (by kernel_rfl) (fun h2 => Trip.less (xD_can (.inr (.inr rfl))) ?_) (fun h2 => Trip.less (xD_can (.inr (.inr rfl))) ?_)
  · have hw : wantAll v p q fa fb (eld b).length (eld a).length ua ub sh = 6 := by unfold wantAll; rw [h, h1, h2]; rfl
    rw [hw]
    exact (Trip.runY Eok sm_ok (Eq.mp (vcA2 vl o0 t a b c i v p q fa fb 8 ua ub (Stops 1 .normal (frD vl t.length c i v p q fa ua fb ub 6) (stD o0 t a b 5))) ⟨rfl, Wk.refl _ _ _⟩)).mono fun r hr => hr.can
  have hw : wantAll v p q fa fb (eld b).length (eld a).length ua ub sh = wantN ua ub sh v 8 := by unfold wantAll; rw [h, h1, h2]; rfl
  rw [hw]
  exact (Trip.runY Eok sm_ok (Eq.mp (vcY3 vl o0 t a b c i v p q fa fb 8 ua ub sh (Stops 1 .normal (frD vl t.length c i v p q fa ua fb ub (wantN ua ub sh v 8)) (stD o0 t a b 5))) ⟨by cases ua <;> cases ub <;> exact hsh _, rfl, Wk.refl _ _ _⟩)).mono fun r hr => hr.can
end
end Go.Proofs.Ytidmijpfoodkoaa.utr
end

section
open Go Go.Ax Go.Proofs.Ytidmijpfoodkoaa Go.Proofs.Ytidmijpfoodkoaa.Ut
namespace Go.Proofs.Ytidmijpfoodkoaa.utr
theorem frE_cons {ids : List Nat} {fr : AFr} {k : Nat} {ks : List Nat} {v : AV} {l : List (Nat × AV)} (h0 : renV ids ((fr.m.get k).getD undefA) = some v) (h : frE ids fr ks = some l) : frE ids fr (k :: ks) = some ((k, v) :: l) := by
  simp only [frE, h0, h]
section
variable {vl : AV} {o0 : AO} {t : List Nat} {a b : Ln} {c : Cap}
theorem objL (c0 : Came o0) {k : Nat} {S : ASt} (g0 : S.h.get 0 = some o0) (g1 : S.h.get k = some (.cells (trow t) true)) (g2 : S.h.get 2 = some (.cells (lv a ++ lv b) true)) : StP [0, k, 2] S (oL o0 t a b) :=
  StP.came c0 rfl g0 <| .cons k _ rfl g1 (RenO.row (trow_refs t)) <| .cons 2 _ rfl g2 (RenO.row (two_refs a b)) .nil
theorem toL1 (kl : KeptV 1 vl) (c0 : Came o0) {n i : Nat} {S : ASt} (g0 : S.h.get 0 = some o0) (g1 : S.h.get 1 = some (.cells (trow t) true)) (g2 : S.h.get 2 = some (.cells (lv a ++ lv b) true)) :
    Wk 1 (fr8 vl n c [(5, nI i)]) S (fr8 vl n c [(5, nI i)]) (stL o0 t a b 3) :=
  Wk.heldX [0, 1, 2] rfl rfl [0, 3, 4, 5] (frE_cons ((congrArg (renV [0, 1, 2]) (show ((fr8 vl n c [(5, nI i)]).m.get 0).getD undefA = vl by kernel_rfl)).trans (kl _ rfl)) (by kernel_rfl)) (objL c0 g0 g1 g2)
theorem toL7 (kl : KeptV 1 vl) (c0 : Came o0) {n i : Nat} {S : ASt} (g0 : S.h.get 0 = some o0) (g1 : S.h.get 7 = some (.cells (trow t) true)) (g2 : S.h.get 2 = some (.cells (lv a ++ lv b) true)) :
    Wk 1 (xFr [(0, vl), (3, .slice (some (7, 0)) n c), (4, .ptr (some (2, 0))), (5, nI i)] 184) S (fr8 vl n c [(5, nI i)]) (stL o0 t a b 3) :=
  Wk.heldX [0, 7, 2] rfl rfl [0, 3, 4, 5] (frE_cons ((congrArg (renV [0, 7, 2]) (show ((xFr [(0, vl), (3, .slice (some (7, 0)) n c), (4, .ptr (some (2, 0))), (5, nI i)] 184).m.get 0).getD undefA = vl by kernel_rfl)).trans (kl _ rfl)) (by kernel_rfl)) (objL c0 g0 g1 g2)
theorem toD (kl : KeptV 1 vl) (c0 : Came o0) {m i v p q fa fb : Nat} {ua ub : Bool} {S : ASt} (g0 : S.h.get 0 = some o0) (g1 : S.h.get 1 = some (.cells (trow t) true)) (g2 : S.h.get 2 = some (.cells (lv a ++ lv b) true)) (g7 : S.h.get 7 = some (.cells (lv a) true)) (g8 : S.h.get 8 = some (.cells (lv b) true)) :
    Wk 1 (xFr [(0, vl), (3, .slice (some (1, 0)) m c), (4, .ptr (some (2, 0))), (5, nI i), (10, .ptr (some (7, 0))), (11, .ptr (some (8, 0))), (12, nI v), (13, nI p), (14, nI q), (15, nI fa), (16, .bool ua), (17, nI fb), (18, .bool ub), (19, nI 8)] 184) S (frD vl m c i v p q fa ua fb ub 8) (stD o0 t a b 5) :=
  Wk.heldX [0, 1, 2, 7, 8] rfl rfl kD0 (frE_cons ((congrArg (renV [0, 1, 2, 7, 8]) (show ((xFr [(0, vl), (3, .slice (some (1, 0)) m c), (4, .ptr (some (2, 0))), (5, nI i), (10, .ptr (some (7, 0))), (11, .ptr (some (8, 0))), (12, nI v), (13, nI p), (14, nI q), (15, nI fa), (16, .bool ua), (17, nI fb), (18, .bool ub), (19, nI 8)] 184).m.get 0).getD undefA = vl by kernel_rfl)).trans (kl _ rfl)) (by kernel_rfl))
    (StP.came c0 rfl g0 <| .cons 1 _ rfl g1 (RenO.row (trow_refs t)) <| .cons 2 _ rfl g2 (RenO.row (two_refs a b)) <| .cons 7 _ rfl g7 (RenO.row (lv_refs a)) <| .cons 8 _ rfl g8 (RenO.row (lv_refs b)) .nil)

structure Inv (t : List Nat) (a b : Ln) (c : Cap) : Prop where
  tree : Tree t
  la : a.c + 1 < t.length
  lb : b.c + 1 < t.length
  pa : Pre t (a.c + 1) (eN a)
  pb : Pre t (b.c + 1) (eN b)
  cap : c = .rest 1 ∨ (c = .known 2 ∧ t = [0, 0])

theorem dpart (kl : KeptV 1 vl) (c0 : Came o0) {i : Nat} (hv : Inv t a b c) (hl : t.length ≤ 100) : Trip Try.prog 1 none D8 (fr8 vl t.length c [(5, nI i)]) (stL o0 t a b 3) (Stops 1 .normal (fr8 vl t.length c [(5, nI i)]) (stL o0 t a b 3)) := by
  let P1 := upP t (a.c + 1) (b.c + 1)
  let P2 := upP t (b.c + 1) (a.c + 1)
  have hrow : ∀ S : ASt, S.h.get 1 = some (.cells (trow t) true) → RowAtS S 1 t.length t := fun S h => ⟨rfl, hv.tree, hl, true, h⟩
  have hvc := Eq.mp (vcD1 vl o0 t a b c i P1.1 P2.1 P1.2 P2.2 (Stops 1 .normal (frD vl t.length c i (cmpN a b) (a.c + 1) (b.c + 1) P1.1 P1.2 P2.1 P2.2 8) (stD o0 t a b 5)) (fun _ => False))
    ⟨okA_ok b, call_cmp a b, conv_at (by have := hv.la; omega) _, conv_at (by have := hv.lb; omega) _, ifB_mk (fun h => by have := hv.la; rw [ltF_nn] at h; simp at h; omega) (fun _ => ifB_mk (fun h => by have := hv.lb; rw [ltF_nn] at h; simp at h; omega) (fun _ =>
      ⟨by have := call_up (m := 73) (c := c) (p := a.c + 1) (hrow _ (by kernel_rfl : (vcD1_s1 vl o0 t a b c i P1.1 P2.1 P1.2 P2.2).h.get 1 = some (.cells (trow t) true))) hv.lb; rw [upV_P] at this; exact this,
       by have := call_up (m := 72) (c := c) (p := b.c + 1) (hrow _ (by kernel_rfl : (vcD1_s1 vl o0 t a b c i P1.1 P2.1 P1.2 P2.2).h.get 1 = some (.cells (trow t) true))) hv.la; rw [upV_P] at this; exact this,
       rfl, toD kl c0 (by kernel_rfl) (by kernel_rfl) (by kernel_rfl) (by kernel_rfl) (by kernel_rfl)⟩))⟩
  refine Trip.preM Eok sm_ok (k := 6) (by kernel_rfl) hvc (fun F S hq => Trip.less hq.2 ?_) (fun r hr hq => hq.elim) (fun r h1 h2 hq => absurd hq.1 h1)
  rw [D8a]
  have hw := want_ok hv.tree hv.la hv.lb hv.pa hv.pb
  refine Trip.seq (R := Stops 1 .normal (frD vl t.length c i (cmpN a b) (a.c + 1) (b.c + 1) P1.1 P1.2 P2.1 P2.2 (cmpN a b)) (stD o0 t a b 5)) ?_ (fun fr' st' hq => Trip.less hq.2 ?_) (fun e fr' st' hne hq => absurd hq.1 hne)
  · refine Trip.block ((switch kl c0 (sh := shV a b) (fun m => call_sh (hrow _ (by kernel_rfl)) hv.la hv.lb hv.pa hv.pb)).mono fun r hr => ?_)
    rw [hw] at hr
    obtain ⟨e, fr', st'⟩ := r
    obtain ⟨h1, h2⟩ := hr
    simp only at h1
    subst h1
    exact ⟨rfl, h2⟩
  · refine Trip.runM Eok sm_ok (Eq.mp (vcD3 vl o0 t a b c i (cmpN a b) (a.c + 1) (b.c + 1) P1.1 P2.1 (cmpN a b) P1.2 P2.2 (Stops 1 .normal (fr8 vl t.length c [(5, nI i)]) (stL o0 t a b 3)) (fun _ => False)) ?_) (fun r hr hq => hq.elim) (fun r hr hq => hq.can)
    exact ifB_mk (fun h => absurd rfl (neqF_t h)) (fun _ => ⟨rfl, toL1 kl c0 (by kernel_rfl) (by kernel_rfl) (by kernel_rfl)⟩)

/-! ### The steps' plain part -/
def endH (x : Nat) : Hs → Hs
  | .z => .o x
  | .o y => .t x y
  | .t y _ => .t x y
def alone (n : Nat) (l : Ln) : Ln := ⟨n - 1, some l.c, l.h⟩
theorem eN_end (m x : Nat) (h : Hs) : eN ⟨m, none, endH x h⟩ = (eN ⟨m, some x, h⟩).take 2 := by cases h <;> rfl
theorem Inv.endA {m x : Nat} {h : Hs} (hv : Inv t ⟨m, some x, h⟩ b c) : Inv t ⟨m, none, endH x h⟩ ⟨m, none, endH x h⟩ c :=
  ⟨hv.tree, hv.la, hv.la, by rw [eN_end]; exact Pre.take 2 hv.pa, by rw [eN_end]; exact Pre.take 2 hv.pa, hv.cap⟩
theorem Inv.endB {m x : Nat} {h : Hs} (hv : Inv t a ⟨m, some x, h⟩ c) : Inv t ⟨m, none, endH x h⟩ ⟨m, none, endH x h⟩ c :=
  ⟨hv.tree, hv.lb, hv.lb, by rw [eN_end]; exact Pre.take 2 hv.pb, by rw [eN_end]; exact Pre.take 2 hv.pb, hv.cap⟩
theorem Inv.sameA (hv : Inv t a b c) : Inv t a a c := ⟨hv.tree, hv.la, hv.la, hv.pa, hv.pa, hv.cap⟩
theorem Inv.sameB (hv : Inv t a b c) : Inv t b b c := ⟨hv.tree, hv.lb, hv.lb, hv.pb, hv.pb, hv.cap⟩
theorem pre_new {t : List Nat} (ht : Tree t) {m : Nat} {h : Hs} (hm : m + 1 < t.length) (hp : Pre t (m + 1) h.ns) : Pre (t ++ [m + 1]) (t.length - 1 + 1) (eN ⟨t.length - 1, some m, h⟩) := by
  have e : t.length - 1 + 1 = t.length := by omega
  rw [e]
  exact ⟨par_new, by omega, Pre.app ht hm hp⟩
theorem Inv.newA {m : Nat} {h : Hs} (hv : Inv t ⟨m, none, h⟩ b c) : Inv (t ++ [m + 1]) ⟨t.length - 1, some m, h⟩ b (.rest 1) := by
  have h1 := hv.la
  have h2 := hv.lb
  simp only at h1
  exact ⟨hv.tree.app h1, by simp; omega, by simp; omega, pre_new hv.tree h1 hv.pa, Pre.app hv.tree h2 hv.pb, .inl rfl⟩
theorem Inv.newB {m : Nat} {h : Hs} (hv : Inv t a ⟨m, none, h⟩ c) : Inv (t ++ [m + 1]) a ⟨t.length - 1, some m, h⟩ (.rest 1) := by
  have h1 := hv.lb
  have h2 := hv.la
  simp only at h1
  exact ⟨hv.tree.app h1, by simp; omega, by simp; omega, Pre.app hv.tree h2 hv.pa, pre_new hv.tree h1 hv.pb, .inl rfl⟩
end
end Go.Proofs.Ytidmijpfoodkoaa.utr
end

section
open Go Go.Ax Go.Proofs.Ytidmijpfoodkoaa Go.Proofs.Ytidmijpfoodkoaa.Ut
namespace Go.Proofs.Ytidmijpfoodkoaa.utr
theorem trow_app (t : List Nat) (x : Nat) : trow (t ++ [x]) = trow t ++ [nI x] := by simp [trow]
def rowZ (l : List Int) : List AV := l.map fun z => .int .i64 z
section
variable {vl : AV} {o0 : AO} {t : List Nat} {a b : Ln} {c : Cap} {l : List Int}
def XQ (vl : AV) (o0 : AO) (n i : Nat) (r : Exit × AFr × ASt) : Prop :=
  ∃ t' a' b' c', Inv t' a' b' c' ∧ t'.length ≤ n + 1 ∧ Stops 1 .normal (fr8 vl t'.length c' [(5, nI i)]) (stL o0 t' a' b' 3) r
theorem XQ.can {n i : Nat} {kf ko : List Nat} {r : Exit × AFr × ASt} (h : XQ vl o0 n i (canR kf ko r)) : XQ vl o0 n i r :=
  let ⟨t', a', b', c', h1, h2, h3⟩ := h; ⟨t', a', b', c', h1, h2, h3.can⟩
theorem stepGo (kl : KeptV 1 vl) (c0 : Came o0) {n i : Nat} (hn : n ≤ 90) {fl : Fl} {F : AFr} {S : ASt} {kf ko : List Nat} {y : An} (h : ((TM E sm [] fl0 80).ex fl none (preC 0 X8) F S).allY (fun r => XQ vl o0 n i (canR kf ko r)) y) : Trip Try.prog 1 none X8 F S (XQ vl o0 n i) := by
  refine Trip.preY Eok sm_ok (k := 0) (by kernel_rfl) h (fun F S hq => ?_) (fun r hne hq => hq.can)
  obtain ⟨t', a', b', c', h1, h2, _, h3⟩ := hq
  exact Trip.less h3 ((dpart kl c0 h1 (by omega)).mono fun r hr => ⟨t', a', b', c', h1, h2, hr⟩)
theorem ix (SL : SlArg E 78 1 0 l.length vl o0 (rowZ l)) {i : Nat} (hi : i < l.length) (st : ASt) : still st (aIndexAddr E 78 vl (nI i)) = some (.ptr (some (0, 0 + i * 1)), st) := still_of (SL.idx i _ hi)
theorem ld (SL : SlArg E 78 1 0 l.length vl o0 (rowZ l)) {i : Nat} {z : Int} (hi : l[i]? = some z) {st : ASt} (h0 : st.h.get 0 = some o0) : aLoad E 3 (.ptr (some (0, 0 + i * 1))) st = some (.int .i64 z, st) := by
  have hlt := (List.getElem?_eq_some_iff.1 hi).1
  have ho := SL.obj (by omega)
  exact load_at (rw := false) (cs := rowZ l) ce3 (by rw [h0, ho]) (by simp [rowZ, hi])

theorem step0 (SL : SlArg E 78 1 0 l.length vl o0 (rowZ l)) (kl : KeptV 1 vl) (c0 : Came o0) (hv : Inv t a b c) (hl : t.length ≤ 90) {i : Nat} (hi : l[i]? = some (.ofNat 0)) : Trip Try.prog 1 none X8 (fr8 vl t.length c [(5, nI i)]) (stL o0 t a b 3) (XQ vl o0 t.length i) := by
  have hlt := (List.getElem?_eq_some_iff.1 hi).1
  obtain ⟨m, ab, h⟩ := a
  cases ab with
  | none =>
    rcases hv.cap with rfl | ⟨rfl, rfl⟩
    · have hla := hv.la
      simp only at hla
      have e : t.length - 1 + 1 = t.length := by omega
      have e1 : (t ++ [m + 1]).length = t.length + 1 := by simp
      have e2 : lv ⟨t.length - 1, some m, h⟩ = [.int .u64 (.ofNat t.length), .int .u64 (.ofNat (m + 1)), .int .u64 h.i0, .int .u64 h.i1] := by simp [lv, bI, e]
      exact stepGo kl c0 hl (Eq.mp (vcX0n vl o0 t b (.rest 1) i m 0 h (XQ vl o0 t.length i)) ⟨ix SL hlt _, ld SL hi (by kernel_rfl), ix SL hlt _, ld SL hi (by kernel_rfl), conv2_at (by omega) _, ix SL hlt _, ld SL hi (by kernel_rfl), conv_at (by omega) _,
        (app79 (t := t) _ 6 (m + 1) (by kernel_rfl) (by kernel_rfl) (by omega)).trans (by kernel_rfl), ix SL hlt _, ld SL hi (by kernel_rfl), trivial, t ++ [m + 1], _, b, _, hv.newA, by omega, rfl, by
          rw [e1]
          exact toL7 kl c0 (by kernel_rfl) (by rw [trow_app]; kernel_rfl) (by rw [e2]; kernel_rfl)⟩)
    · exact stepGo kl c0 hl (Eq.mp (vcX0k vl o0 b i m h (XQ vl o0 2 i)) ⟨ix SL hlt _, ld SL hi (by kernel_rfl), ix SL hlt _, ld SL hi (by kernel_rfl), ix SL hlt _, ld SL hi (by kernel_rfl), conv_at (by have := hv.la; simp at this; omega) _,
        ix SL hlt _, ld SL hi (by kernel_rfl), trivial, _, _, b, _, hv.newA, by simp, rfl, toL7 kl c0 (by kernel_rfl) (by kernel_rfl) (by kernel_rfl)⟩)
  | some x =>
    exact stepGo kl c0 hl (Eq.mp (vcX0s vl o0 t b c i m x h (XQ vl o0 t.length i)) ⟨ix SL hlt _, ld SL hi (by kernel_rfl), ix SL hlt _, ld SL hi (by kernel_rfl), conv2_at (by omega) _, ix SL hlt _, ld SL hi (by kernel_rfl), trivial,
      t, _, b, c, hv, by omega, rfl, toL1 kl c0 (by kernel_rfl) (by kernel_rfl) (by kernel_rfl)⟩)
theorem step1 (SL : SlArg E 78 1 0 l.length vl o0 (rowZ l)) (kl : KeptV 1 vl) (c0 : Came o0) (hv : Inv t a b c) (hl : t.length ≤ 90) {i : Nat} (hi : l[i]? = some (.ofNat 1)) : Trip Try.prog 1 none X8 (fr8 vl t.length c [(5, nI i)]) (stL o0 t a b 3) (XQ vl o0 t.length i) := by
  have hlt := (List.getElem?_eq_some_iff.1 hi).1
  obtain ⟨m, ab, h⟩ := b
  cases ab with
  | none =>
    rcases hv.cap with rfl | ⟨rfl, rfl⟩
    · have hla := hv.lb
      simp only at hla
      have e : t.length - 1 + 1 = t.length := by omega
      have e1 : (t ++ [m + 1]).length = t.length + 1 := by simp
      have e2 : lv ⟨t.length - 1, some m, h⟩ = [.int .u64 (.ofNat t.length), .int .u64 (.ofNat (m + 1)), .int .u64 h.i0, .int .u64 h.i1] := by simp [lv, bI, e]
      exact stepGo kl c0 hl (Eq.mp (vcX1n vl o0 t a (.rest 1) i m 0 h (XQ vl o0 t.length i)) ⟨ix SL hlt _, ld SL hi (by kernel_rfl), ix SL hlt _, ld SL hi (by kernel_rfl), conv2_at (by omega) _, ix SL hlt _, ld SL hi (by kernel_rfl), conv_at (by omega) _,
        (app79 (t := t) _ 6 (m + 1) (by kernel_rfl) (by kernel_rfl) (by omega)).trans (by kernel_rfl), ix SL hlt _, ld SL hi (by kernel_rfl), trivial, t ++ [m + 1], a, _, _, hv.newB, by omega, rfl, by
          rw [e1]
          exact toL7 kl c0 (by kernel_rfl) (by rw [trow_app]; kernel_rfl) (by rw [e2]; kernel_rfl)⟩)
    · exact stepGo kl c0 hl (Eq.mp (vcX1k vl o0 a i m h (XQ vl o0 2 i)) ⟨ix SL hlt _, ld SL hi (by kernel_rfl), ix SL hlt _, ld SL hi (by kernel_rfl), ix SL hlt _, ld SL hi (by kernel_rfl), conv_at (by have := hv.lb; simp at this; omega) _,
        ix SL hlt _, ld SL hi (by kernel_rfl), trivial, _, a, _, _, hv.newB, by simp, rfl, toL7 kl c0 (by kernel_rfl) (by kernel_rfl) (by kernel_rfl)⟩)
  | some x =>
    exact stepGo kl c0 hl (Eq.mp (vcX1s vl o0 t a c i m x h (XQ vl o0 t.length i)) ⟨ix SL hlt _, ld SL hi (by kernel_rfl), ix SL hlt _, ld SL hi (by kernel_rfl), conv2_at (by omega) _, ix SL hlt _, ld SL hi (by kernel_rfl), trivial,
      t, a, _, c, hv, by omega, rfl, toL1 kl c0 (by kernel_rfl) (by kernel_rfl) (by kernel_rfl)⟩)
theorem lv_end (m x : Nat) (h : Hs) : lv ⟨m, none, endH x h⟩ = [.int .u64 (.ofNat (m + 1)), .int .u64 (.ofNat 0), .int .u64 (.ofNat (x + 1)), .int .u64 h.i0] := by cases h <;> rfl
theorem step2 (SL : SlArg E 78 1 0 l.length vl o0 (rowZ l)) (kl : KeptV 1 vl) (c0 : Came o0) (hv : Inv t a b c) (hl : t.length ≤ 90) {i : Nat} (hi : l[i]? = some (.ofNat 2)) : Trip Try.prog 1 none X8 (fr8 vl t.length c [(5, nI i)]) (stL o0 t a b 3) (XQ vl o0 t.length i) := by
  have hlt := (List.getElem?_eq_some_iff.1 hi).1
  obtain ⟨m, ab, h⟩ := a
  cases ab with
  | none =>
    exact stepGo kl c0 hl (Eq.mp (vcX2n vl o0 t b c i m 0 h (XQ vl o0 t.length i)) ⟨ix SL hlt _, ld SL hi (by kernel_rfl), ix SL hlt _, ld SL hi (by kernel_rfl), okA_ok ⟨m, none, h⟩, t, _, _, c, hv.sameA, by omega, rfl, toL1 kl c0 (by kernel_rfl) (by kernel_rfl) (by kernel_rfl)⟩)
  | some x =>
    exact stepGo kl c0 hl (Eq.mp (vcX2s vl o0 t b c i m x h (XQ vl o0 t.length i)) ⟨ix SL hlt _, ld SL hi (by kernel_rfl), ix SL hlt _, ld SL hi (by kernel_rfl), by have := okA_ok ⟨m, none, endH x h⟩; rw [lv_end] at this; exact this, t, _, _, c, hv.endA, by omega, rfl, toL1 kl c0 (by kernel_rfl) (by kernel_rfl) (by rw [lv_end]; kernel_rfl)⟩)
theorem step3 (SL : SlArg E 78 1 0 l.length vl o0 (rowZ l)) (kl : KeptV 1 vl) (c0 : Came o0) (hv : Inv t a b c) (hl : t.length ≤ 90) {i : Nat} (hi : l[i]? = some (.ofNat 3)) : Trip Try.prog 1 none X8 (fr8 vl t.length c [(5, nI i)]) (stL o0 t a b 3) (XQ vl o0 t.length i) := by
  have hlt := (List.getElem?_eq_some_iff.1 hi).1
  obtain ⟨m, ab, h⟩ := b
  cases ab with
  | none =>
    exact stepGo kl c0 hl (Eq.mp (vcX3n vl o0 t a c i m 0 h (XQ vl o0 t.length i)) ⟨ix SL hlt _, ld SL hi (by kernel_rfl), ix SL hlt _, ld SL hi (by kernel_rfl), okA_ok ⟨m, none, h⟩, t, _, _, c, hv.sameB, by omega, rfl, toL1 kl c0 (by kernel_rfl) (by kernel_rfl) (by kernel_rfl)⟩)
  | some x =>
    exact stepGo kl c0 hl (Eq.mp (vcX3s vl o0 t a c i m x h (XQ vl o0 t.length i)) ⟨ix SL hlt _, ld SL hi (by kernel_rfl), ix SL hlt _, ld SL hi (by kernel_rfl), by have := okA_ok ⟨m, none, endH x h⟩; rw [lv_end] at this; exact this, t, _, _, c, hv.endB, by omega, rfl, toL1 kl c0 (by kernel_rfl) (by kernel_rfl) (by rw [lv_end]; kernel_rfl)⟩)
/-- a round's middle: a step, or none -/
def ZQ (vl : AV) (o0 : AO) (t : List Nat) (a b : Ln) (c : Cap) (i : Nat) (r : Exit × AFr × ASt) : Prop := XQ vl o0 t.length i r ∨ Stops 1 (.exit 1) (fr8 vl t.length c [(5, nI i)]) (stL o0 t a b 3) r
theorem stepAll (SL : SlArg E 78 1 0 l.length vl o0 (rowZ l)) (kl : KeptV 1 vl) (c0 : Came o0) (hv : Inv t a b c) (hl : t.length ≤ 90) {i : Nat} {z : Int} (hi : l[i]? = some z) : Trip Try.prog 1 none X8 (fr8 vl t.length c [(5, nI i)]) (stL o0 t a b 3) (ZQ vl o0 t a b c i) := by
  by_cases h0 : z = .ofNat 0
  · subst h0; exact (step0 SL kl c0 hv hl hi).mono fun r hr => .inl hr
  by_cases h1 : z = .ofNat 1
  · subst h1; exact (step1 SL kl c0 hv hl hi).mono fun r hr => .inl hr
  by_cases h2 : z = .ofNat 2
  · subst h2; exact (step2 SL kl c0 hv hl hi).mono fun r hr => .inl hr
  by_cases h3 : z = .ofNat 3
  · subst h3; exact (step3 SL kl c0 hv hl hi).mono fun r hr => .inl hr
  have hlt := (List.getElem?_eq_some_iff.1 hi).1
  have hvc := Eq.mp (vcX4 vl o0 t a b c i z (Stops 1 (.exit 1) (fr8 vl t.length c [(5, nI i)]) (stL o0 t a b 3)))
    ⟨ix SL hlt _, ld SL hi (by kernel_rfl), ifB_mk (fun h => h0 (eqF_t h)) fun _ => ifB_mk (fun h => h1 (eqF_t h)) fun _ => ifB_mk (fun h => h2 (eqF_t h)) fun _ => ifB_mk (fun h => h3 (eqF_t h)) fun _ => ⟨rfl, Wk.refl _ _ _⟩⟩
  exact Trip.preY Eok sm_ok (k := 0) (by kernel_rfl) hvc (fun F S hq => by cases hq.1) (fun r hne hq => .inr hq.can)
/-- a round -/
def RQ (vl : AV) (o0 : AO) (t : List Nat) (a b : Ln) (c : Cap) (n i : Nat) (r : Exit × AFr × ASt) : Prop :=
  (i < n ∧ ∃ t' a' b' c', Inv t' a' b' c' ∧ t'.length ≤ t.length + 1 ∧ Stops 1 .normal (fr8 vl t'.length c' [(5, nI (i + 1))]) (stL o0 t' a' b' 3) r) ∨ (i = n ∧ Stops 1 (.exit 0) (fr8 vl t.length c [(5, nI i)]) (stL o0 t a b 3) r)
theorem B8a : B8 = .seq rT (.seq (.block 1 X8) r7) := by kernel_rfl
theorem round (SL : SlArg E 78 1 0 l.length vl o0 (rowZ l)) (kl : KeptV 1 vl) (c0 : Came o0) (hv : Inv t a b c) (hl : t.length ≤ 90) {i : Nat} (hi : i ≤ l.length) (hn : l.length ≤ 40) : Trip Try.prog 1 none B8 (fr8 vl t.length c [(5, nI i)]) (stL o0 t a b 3) (RQ vl o0 t a b c l.length i) := by
  rw [B8a]
  have hw := wrap_succ (i := i) (by omega)
  refine Trip.seq (R := fun r => (i < l.length ∧ Stops 1 .normal (fr8 vl t.length c [(5, nI i)]) (stL o0 t a b 3) r) ∨ (i = l.length ∧ Stops 1 (.exit 0) (fr8 vl t.length c [(5, nI i)]) (stL o0 t a b 3) r)) ?_ (fun fr' st' hq => ?_) (fun e fr' st' hne hq => ?_)
  · refine (Trip.runY Eok sm_ok (Eq.mp (vcT vl o0 t a b c l.length i (fun r => (i < l.length ∧ Stops 1 .normal (fr8 vl t.length c [(5, nI i)]) (stL o0 t a b 3) r) ∨ (i = l.length ∧ Stops 1 (.exit 0) (fr8 vl t.length c [(5, nI i)]) (stL o0 t a b 3) r))) ⟨SL.len _, ?_⟩)).mono fun r hr => hr.imp (fun h => ⟨h.1, h.2.can⟩) (fun h => ⟨h.1, h.2.can⟩)
    rw [ltF_nn]
    exact ifB_mk (fun h => .inl ⟨by simpa using h, rfl, Wk.refl _ _ _⟩) (fun h => .inr ⟨by simp at h; omega, rfl, Wk.refl _ _ _⟩)
  · rcases hq with ⟨q1, _, hw2⟩ | ⟨q1, q2, _⟩
    · refine Trip.less hw2 ?_
      have hz : l[i]? = some l[i] := by simp [q1]
      refine Trip.seq (R := XQ vl o0 t.length i) (Trip.block ((stepAll SL kl c0 hv hl hz).mono fun r hr => ?_)) (fun fr' st' hq => ?_) (fun e fr' st' hne hq => ?_)
      · obtain ⟨e, fr', st'⟩ := r
        rcases hr with ⟨t', a', b', c', g1, g2, g3, g4⟩ | ⟨g3, g4⟩
        · simp only at g3
          subst g3
          exact ⟨t', a', b', c', g1, g2, rfl, g4⟩
        · simp only at g3
          subst g3
          exact ⟨fun _ => ⟨t, a, b, c, hv, by omega, rfl, g4⟩, fun h => absurd rfl h⟩
      · obtain ⟨t', a', b', c', g1, g2, _, g4⟩ := hq
        refine Trip.less g4 ((Trip.runY Eok sm_ok (Eq.mp (vcR7 vl o0 t' a' b' c' i (Stops 1 .normal (fr8 vl t'.length c' [(5, nI (i + 1))]) (stL o0 t' a' b' 3))) ?_)).mono fun r hr => .inl ⟨q1, t', a', b', c', g1, g2, hr.can⟩)
        rw [hw]
        exact ⟨rfl, Wk.refl _ _ _⟩
      · obtain ⟨t', a', b', c', g1, g2, g3, g4⟩ := hq
        exact absurd g3 hne
    · cases q2
  · rcases hq with ⟨q1, q2, _⟩ | ⟨q1, q2⟩
    · exact absurd q2 hne
    · exact .inr ⟨q1, q2⟩
/-! ### The law's text -/
def OkA (q : Exit × Option AV) : Prop := (q.1 = .normal ∨ q.1 = .ret) ∧ q.2 = some (.bool true)
def LawQ (r : Exit × AFr × ASt) : Prop := (r.1 = .normal ∨ r.1 = .ret) ∧ ans (leaveA E Try.f8 r.2.1 r.2.2) = some (.bool true)
theorem c8a : dropC 3 c8 = .seq (.seq r5 (.block 0 (.loop B8))) rZ := by kernel_rfl
theorem inv0 : Inv [0, 0] l1 l1 (.known 2) := by
  have ht : Tree [0, 0] := ⟨by simp, rfl, fun x h1 h2 => by
    have : x = 1 := by simp at h2; omega
    subst this; decide⟩
  exact ⟨ht, by decide, by decide, trivial, trivial, .inr ⟨rfl, rfl⟩⟩
theorem law (SL : SlArg E 78 1 0 l.length vl o0 (rowZ l)) (kl : KeptV 1 vl) (c0 : Came o0) : Trip Try.prog 1 none c8 (F8 vl) (mkSt [(0, o0)] 1) LawQ := by
  have ok : OkA (.ret, some (.bool true)) := ⟨.inr rfl, rfl⟩
  have hvc := Eq.mp (vcP vl o0 l.length (fun r => l.length ≤ 40 ∧ r = (.normal, fr8 vl 2 (.known 2) [], stL o0 [0, 0] l1 l1 3)) OkA) ⟨SL.len _, ifB_mk (fun _ => ok) fun h => ⟨by rw [ltF_nn] at h; simp at h; omega, rfl⟩⟩
  refine Trip.preM Eok sm_ok (k := 3) (by kernel_rfl) hvc (fun F S hq => ?_) (fun r hr hq => ⟨.inr hr, hq.2⟩) (fun r h1 h2 hq => absurd (congrArg (·.1) hq.2) h1)
  obtain ⟨hn, hq⟩ := hq
  cases hq
  rw [c8a]
  refine Trip.seq (R := fun r => ∃ t a b c i, Stops 1 .normal (fr8 vl t.length c [(5, nI i)]) (stL o0 t a b 3) r) ?_ (fun fr' st' hq => ?_) (fun e fr' st' hne hq => ?_)
  · refine Trip.seq (R := Stops 1 .normal (fr8 vl 2 (.known 2) [(5, nI 0)]) (stL o0 [0, 0] l1 l1 3)) ((Trip.runY Eok sm_ok (Eq.mp (vcI0 vl o0 (Stops 1 .normal (fr8 vl 2 (.known 2) [(5, nI 0)]) (stL o0 [0, 0] l1 l1 3))) ⟨rfl, Wk.refl _ _ _⟩)).mono fun r hr => hr.can) (fun fr' st' hq => Trip.less hq.2 ?_) (fun e fr' st' hne hq => absurd hq.1 hne)
    refine Trip.block (Trip.loop (fun m fr st => ∃ t a b c i, i ≤ l.length ∧ m = l.length - i ∧ t.length ≤ 2 + i ∧ Inv t a b c ∧ fr = fr8 vl t.length c [(5, nI i)] ∧ st = stL o0 t a b 3) ?_ l.length ⟨[0, 0], l1, l1, .known 2, 0, by omega, by omega, by simp, inv0, rfl, rfl⟩)
    rintro m fr st ⟨t, a, b, c, i, hi, rfl, hl, hv, rfl, rfl⟩
    refine (round SL kl c0 hv (by omega) hi hn).mono ?_
    rintro ⟨e, fr', st'⟩ (⟨q1, t', a', b', c', g1, g2, g3, g4⟩ | ⟨q1, g3, g4⟩)
    · simp only at g3 g4
      subst g3
      exact ⟨l.length - (i + 1), _, _, by omega, g4, t', a', b', c', i + 1, by omega, rfl, by omega, g1, rfl, rfl⟩
    · simp only at g3 g4
      subst g3
      exact ⟨fun _ => ⟨t, a, b, c, i, rfl, g4⟩, fun h => absurd rfl h⟩
  · obtain ⟨t, a, b, c, i, _, hw⟩ := hq
    exact Trip.less hw (Trip.runY Eok sm_ok (Eq.mp (vcZ vl o0 t a b c i OkA) ok))
  · obtain ⟨t, a, b, c, i, h1, hw⟩ := hq
    exact absurd h1 hne
end
end Go.Proofs.Ytidmijpfoodkoaa.utr
end

section
open Go Go.Ax Go.Proofs.Ytidmijpfoodkoaa Go.Proofs.Ytidmijpfoodkoaa.Ut
namespace Go.Proofs.Ytidmijpfoodkoaa.utr
section
open Go.ChangeShapes Go.WideShapes Go.ChangeAt Go.RowKit Go.Deep
theorem own : ownKnob Try.prog.godebug = none := by kernel_rfl
theorem laidOut : laidOutB Try.prog = true := by kernel_rfl
theorem same_below {W W' : World} (h : Below W.heap.size W W') {p : MemPlace} (hp : p.block < W.heap.size) : W.sameAt W' p := by
  cases p with
  | cell b off => exact h.cell (p := ⟨b, off, none⟩) hp
  | map b => exact h.block b hp
def rows1 (r0 : Option (Nat × Nat × List AV)) : Nat → Option (Nat × Nat × List AV)
  | 0 => r0
  | _ => none
theorem rowZ_refs (l : List Int) : ∀ c, c ∈ rowZ l → refsV 0 c := by
  intro c hc
  obtain ⟨x, _, rfl⟩ := List.mem_map.1 hc
  simp [refsV]
theorem walk {W : World} {v0 : Value} {l : List Int} {vl : AV} {o0 : AO} {r0 : Option (Nat × Nat × List AV)} (A0 : ArgAt E W 78 1 0 l.length v0 (rowZ l) vl o0 r0) :
    Calls Try.prog 8 #[v0] W fun e w' => e = .returned (.bool true) ∧ Below W.heap.size W w' := by
  have hgl : GlobOK W := by intro _ _ h; cases h
  have hg : ∀ i, (mkSt [(0, o0)] 1).h.get i = if i = 0 then some o0 else none := fun i => by
    show ((T.e : T AO).set D 0 _).get i = _
    rw [T.get_set, T.get_e]
  have hrow : ∀ i r, rows1 r0 i = some r → r.2.2 ≠ [] ∧ RowAt W r.1 r.2.1 r.2.2 := fun i r h => by
    match i, h with
    | 0, h => exact A0.row r h
  have hsr := rowsO_ok hgl (n := 1) (rows := rows1 r0) hrow (st := mkSt [(0, o0)] 1) rfl (fun i a hi => by
    rw [hg] at hi
    by_cases e0 : i = 0
    · subst e0; simp at hi; subst hi; exact ⟨by omega, A0.obj⟩
    · simp [e0] at hi)
  have w0 : VR (rowsRen W 1 (rows1 r0)) vl v0 := A0.vr _ fun q hq => rowsRen_at (i := 0) (by omega) hq (A0.row q hq).1 (A0.row q hq).2
  have hv : VRs (rowsRen W 1 (rows1 r0)) [vl] #[v0] := ⟨rfl, fun i x x' hx hx' => by
    match i with
    | 0 => simp at hx hx'; subst hx; subst hx'; exact w0
    | i + 1 => simp at hx⟩
  have hfr : ({ m := putArgs [vl] 0 .e, n := Try.f8.ntmps, defs := [] } : AFr) = F8 vl := by kernel_rfl
  refine law_calls Eok (fn := Try.f8) (by kernel_rfl) (c := c8) (by kernel_rfl) (by kernel_rfl) (fun _ h => h) (fun k hk => .inr hk) hsr hv ?_
  rw [hfr]
  exact law A0.sl (A0.kept 1 (by omega)) (A0.came (rowZ_refs l))
theorem spot_none {W : World} {a : Addr} {v : Value} (h : W.cell? (a.add 0) = some v) : a.spot = none := by
  obtain ⟨b, off, spot⟩ := a
  cases spot with
  | none => rfl
  | some s =>
    unfold World.cell? at h
    simp only [Addr.add, if_true] at h
    split at h
    · simp at h
    · cases h
theorem arg_ints {W : World} {a : Addr} {len cap : Nat} {zs : List Int} (hl : len ≤ cap) (hz : zs.length = len) (hi : ∀ i, i < len → W.cell? (a.add i) = some (.int .i64 (zs.getD i 0))) :
    ∃ (l : List Int) (vl : AV) (o : AO) (r : Option (Nat × Nat × List AV)), ArgAt E W 78 1 0 l.length (.slice (some a) len cap) (rowZ l) vl o r := by
  by_cases h0 : len = 0
  · subst h0
    exact ⟨[], _, _, _, ArgAt.mk_zero sl78⟩
  · have hsp := spot_none (hi 0 (by omega))
    obtain ⟨b, off, spot⟩ := a
    simp only at hsp
    subst hsp
    refine ⟨zs, .slice (some (0, 0)) len (.atl len), .cells (rowZ zs) false, some (b, off, rowZ zs), ?_⟩
    rw [hz]
    have := ArgAt.mk_row (E := E) (W := W) (t := 78) (z := 1) (i := 0) (n := len) (b := b) (off := off) (cap := cap) (cs := rowZ zs) sl78
      (by intro e; have := congrArg List.length e; simp [rowZ] at this; subst this; simp at hz; omega) hl (fun k v hk => ?_)
    · exact this
    · have hk2 : k < len := by
        have := (List.getElem?_eq_some_iff.1 hk).1
        simpa [rowZ, hz] using this
      have hv : v = .int .i64 (zs.getD k 0) := by
        have hk3 : k < zs.length := by omega
        simp [rowZ, hk3] at hk
        rw [← hk, List.getD_eq_getElem?_getD, List.getElem?_eq_getElem hk3]; rfl
      subst hv
      exact ⟨rfl, _, by have := hi k hk2; rw [add_none] at this; exact this, fun ι => .int _ _⟩

/-! ### The row's step -/
set_option maxRecDepth 100000 in
theorem lifted (os : Os) (started : os.Started) (H : Type) (enc : TypeId × Value → H) :
    ReturnsInHanded {} Try.checked os 8 .any (Rows.uuidTreeSpec.pre6 enc Try.prog Try.f8 Rows.uuidTreeRow.domain false) (Rows.uuidTreeSpec.post enc Try.prog Try.f8 false true false false) := by
  refine returnsInHanded_of_change (C := Try.checked) own started (by kernel_rfl) Try.func8
    (ChangeSpec.witness6 (enc := enc) (C := Try.checked) false ⟨#[], #[.slice none 0 0], []⟩ 8 (by kernel_rfl) (by kernel_rfl) (by kernel_rfl) (by kernel_rfl)) ?_
  intro W base args ds gs before hval0 hW hcnd _
  have hval : ∀ (j : Nat) t v, Try.f8.params[j]? = some t → args[j]? = some v → Value.okWide Try.prog W .any base t v := hval0
  have hW' := hW
  obtain ⟨p, q, hA0, hV, rfl, hfz, hnd⟩ := hW
  have hA : DataW.TrodAll enc Try.prog W 0 (fun _ => true) true Try.f8.params.toList args.toList ds p := hA0
  rw [Try.params8] at hA hval
  obtain ⟨v0, d0, rfl, rfl, h0⟩ := trodAll_one hA
  obtain ⟨rfl, rfl⟩ := trodVars_none hV
  obtain ⟨a0, len, cap, rfl⟩ := okWide_slice Try.underlying78 (hval 0 78 v0 rfl rfl)
  have h0k := h0
  obtain ⟨fu0, hf0⟩ := h0
  clear hA0 hval0
  simp only [List.append_nil] at hW'
  have hlt : ∀ x ∈ p, x.block < W.heap.size := fun x hx => by simpa using hW'.lt x hx
  have g0 : ∃ (l : List Int) (vl : AV) (o : AO) (r : Option (Nat × Nat × List AV)), ArgAt E W 78 1 0 l.length (.slice a0 len cap) (rowZ l) vl o r := by
    rcases open_ints Try.underlying78 Try.underlying3 (by kernel_rfl) hf0 with ⟨hcs, _⟩ | ⟨a, len', cap', zs, hcs, _, hl, _, hm, _, hi, hw⟩
    · simp [Value.cells] at hcs
      obtain ⟨rfl, rfl, rfl⟩ := hcs
      exact ⟨[], _, _, _, ArgAt.mk_nil sl78⟩
    · simp [Value.cells] at hcs
      obtain ⟨rfl, rfl, rfl⟩ := hcs
      have hzl : len ≤ zs.length := by rw [hm]; split <;> omega
      refine arg_ints (zs := zs.take len) hl (by rw [List.length_take]; omega) fun i hlt => ?_
      rw [hi i (by omega)]
      congr 2
      simp [List.getD_eq_getElem?_getD, hlt]
  obtain ⟨l, vl, o0, r0, A0⟩ := g0
  refine (walk A0).mono fun e W' ⟨he, bel⟩ => ?_
  subst he
  have ARG0 : DataW.Trod enc Try.prog W' 0 (fun x => decide (x < W.heap.size)) true 78 (.slice a0 len cap) d0 p :=
    WideElems.Trod_stays laidOut (by kernel_rfl) (of_decide_eq_true (by kernel_rfl)) h0k (fun x hx => same_below bel (hlt x hx)) (fun x hx => by simpa using hlt x hx)
  exact ⟨_, rfl, _, _, _, [], _, [], hW', trodAll_mk1 (shut_bool Try.underlying4 _), trodAll_mk1 ARG0, rfl, bel.frame _, fun h => by cases h⟩
theorem over : Rows.uuidTreeRow.holds Try.pinned (OpenSpec.ofChange Rows.uuidTreeSpec) :=
  OpenClaim.holds_of_wide 8 Try.f8 rfl rfl rfl rfl rfl rfl rfl ⟨rfl, rfl, rfl, rfl, rfl⟩ rfl rfl rfl rfl rfl (by kernel_rfl) Try.func8 (by kernel_rfl)
    (of_decide_eq_true (by kernel_rfl)) (by unfold Func.isWrapper; first | (rw [if_pos (by decide +kernel)]; kernel_rfl) | (rw [if_neg (by decide +kernel)]; exact ⟨rfl, rfl⟩))
    (fun os started H enc _ => lifted os started H enc)
/-- THE STATEMENT -/
theorem proved : Rows.UuidTreeSaid := over
end
#print axioms proved
end Go.Proofs.Ytidmijpfoodkoaa.utr
end
